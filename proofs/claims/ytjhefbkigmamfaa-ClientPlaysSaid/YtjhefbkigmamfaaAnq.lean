/-
  answer, walked once more: that the records' bytes lie in blocks that may be written. Where the reach bounds the records.
-/
import Derived.Test.YtjhefbkigmamfaaAns
namespace Go.Proofs.Ytjhefbkigmamfaa
open Go.ChangeShapes Go.WideShapes Go.ChangeAt Go.RowKit
set_option linter.unusedVariables false
set_option linter.unusedSimpArgs false

structure CopiedB (w : World) (s : Nat) (rl new : List RecV) : Prop where
  c : Copied w s rl new
  cs : ∀ r ∈ new, ∀ g, blockOf r.a = some g → ∃ xs, w.heap[g]? = some (.cells xs 5 (0, 0))
theorem CopiedB.kp {w w' : World} {s : Nat} {rl new : List RecV} (h : CopiedB w s rl new) {S : Nat → Prop} (hk : Kp S w w') (hn : ∀ r ∈ new, ∀ g, blockOf r.a = some g → ¬ S g) : CopiedB w' s rl new :=
  ⟨h.c.kp hk hn, fun r hr g hg => by
    obtain ⟨xs, hx⟩ := h.cs r hr g hg
    exact ⟨xs, hk.heap hx (hn r hr g hg)⟩⟩
theorem ansb_step {wr w' : World} {X k : Nat} {rl new : List RecV} {na na' ba : Option Addr} {nc nc' bc : Nat} {r : RecV} (hnl : new.length = k) (hlt : k < rl.length) (hget : rl[k]? = some r) (hX : X + 3 ≤ wr.heap.size) (hO : Owns wr (X + 3) 30 1 na k nc (new.map RecV.val)) (hcp : CopiedB wr (X + 3) rl new) (hfr : ∀ q ∈ new, ∀ g, blockOf q.a = some g → blockOf na ≠ some g)
    (ho : Owns w' (X + 3) 30 1 na' (k + 1) nc' (new.map RecV.val ++ [.slice ba r.d.length bc])) (hb : Owns w' wr.heap.size 5 1 ba r.d.length bc (bytes r.d)) (hne : ∀ g, blockOf ba = some g → blockOf na' ≠ some g) (hmv : blockOf na' = blockOf na ∨ ∀ g, blockOf na' = some g → wr.heap.size ≤ g) (hkc : Kp (fun j => some j = blockOf na ∨ j = X + 2) wr w') :
    (new ++ [(⟨ba, r.d, bc⟩ : RecV)]).length = k + 1 ∧ Owns w' (X + 3) 30 1 na' (k + 1) nc' ((new ++ [(⟨ba, r.d, bc⟩ : RecV)]).map RecV.val) ∧ CopiedB w' (X + 3) rl (new ++ [(⟨ba, r.d, bc⟩ : RecV)]) ∧ (∀ q ∈ new ++ [(⟨ba, r.d, bc⟩ : RecV)], ∀ g, blockOf q.a = some g → blockOf na' ≠ some g) := by
  have h := ans_step hnl hlt hget hX hO hcp.c hfr ho hb hne hmv hkc
  refine ⟨h.1, h.2.1, ⟨h.2.2.1, fun q hq g hg => ?_⟩, h.2.2.2⟩
  rcases List.mem_append.1 hq with hq | hq
  · obtain ⟨xs, hx⟩ := hcp.cs q hq g hg
    refine ⟨xs, hkc.heap hx (fun e => ?_)⟩
    have := (hcp.c.row q hq).2 g hg
    rcases e with e | e
    · exact hfr q hq g hg e.symm
    · omega
  · simp at hq
    subst hq
    exact hb.type hg
set_option maxRecDepth 100000 in
set_option maxHeartbeats 4000000 in
theorem answer_own {w : World} (ai ae as_ an al : Int) (ra : Option Addr) (rl : List RecV) (rc : Nat) (hr : Row w ra (rl.map RecV.val)) (hi : ∀ r ∈ rl, Row w r.a (bytes r.d) ∧ r.d.length ≤ 140737488355328) (hm : rl.length * 24 ≤ 140737488355328) :
    Calls Try.prog 22 #[.agg #[.int .i64 ai, .int .i64 ae, .int .i64 as_, .int .i64 an, .int .i64 al, .slice ra rl.length rc]] w fun e w' => ∃ na new nc, e = .returned (.agg ({ id := ai, e := ae, session := as_, number := an, ra := na, rl := new, rc := nc, leader := al } : AnsV).cells.toArray) ∧ new.length = rl.length ∧ CopiedB w' w.heap.size rl new ∧ Row w' na (new.map RecV.val) ∧ (∀ g, blockOf na = some g → w.heap.size ≤ g ∧ g < w'.heap.size) ∧ Kp (fun _ => False) w w' := by
  have HR := Lib.hid hr
  have HI := Lib.hid hi
  have HM := Lib.hid hm
  clear hr hi hm
  have hk0 : Kp (fun _ => False) w ((w.alloc (.cells #[.int .i64 ai, .int .i64 ae, .int .i64 as_, .int .i64 an, .int .i64 al, .slice ra rl.length rc] 56)).alloc (.cells #[.int .i64 0, .int .i64 0, .int .i64 0, .int .i64 0, .slice none 0 0, .int .i64 0] 47)) := ((Kp.refl _ _).alloc _).alloc _
  have hX1 : ((w.alloc (.cells #[.int .i64 ai, .int .i64 ae, .int .i64 as_, .int .i64 an, .int .i64 al, .slice ra rl.length rc] 56)).alloc (.cells #[.int .i64 0, .int .i64 0, .int .i64 0, .int .i64 0, .slice none 0 0, .int .i64 0] 47)).heap[w.heap.size]? = some (.cells #[.int .i64 ai, .int .i64 ae, .int .i64 as_, .int .i64 an, .int .i64 al, .slice ra rl.length rc] 56 (0, 0)) := heap_old _ (heap_new w _)
  have hX2 : ((w.alloc (.cells #[.int .i64 ai, .int .i64 ae, .int .i64 as_, .int .i64 an, .int .i64 al, .slice ra rl.length rc] 56)).alloc (.cells #[.int .i64 0, .int .i64 0, .int .i64 0, .int .i64 0, .slice none 0 0, .int .i64 0] 47)).heap[w.heap.size + 1]? = some (.cells #[.int .i64 0, .int .i64 0, .int .i64 0, .int .i64 0, .slice none 0 0, .int .i64 0] 47 (0, 0)) := by
    have h := heap_new (w.alloc (.cells #[.int .i64 ai, .int .i64 ae, .int .i64 as_, .int .i64 an, .int .i64 al, .slice ra rl.length rc] 56)) (.cells #[.int .i64 0, .int .i64 0, .int .i64 0, .int .i64 0, .slice none 0 0, .int .i64 0] 47)
    simpa using h
  have hs0 : ((w.alloc (.cells #[.int .i64 ai, .int .i64 ae, .int .i64 as_, .int .i64 an, .int .i64 al, .slice ra rl.length rc] 56)).alloc (.cells #[.int .i64 0, .int .i64 0, .int .i64 0, .int .i64 0, .slice none 0 0, .int .i64 0] 47)).heap.size = w.heap.size + 2 := by simp
  go_enter Try.func22, Try.ntmps22
  go_upto_region 1 with fail
  generalize ((w.alloc (.cells #[.int .i64 ai, .int .i64 ae, .int .i64 as_, .int .i64 an, .int .i64 al, .slice ra rl.length rc] 56)).alloc (.cells #[.int .i64 0, .int .i64 0, .int .i64 0, .int .i64 0, .slice none 0 0, .int .i64 0] 47)) = w0 at hk0 hX1 hX2 hs0 ⊢
  obtain ⟨X, hX⟩ : ∃ X, X = w.heap.size := ⟨_, rfl⟩
  rw [← hX] at hX1 hX2 hs0 ⊢
  have HX := Lib.hid hX
  have HK0 := Lib.hid hk0
  have x0 := cell_of hX1 0 (v := .int .i64 ai) rfl
  have x1 := cell_of hX1 1 (v := .int .i64 ae) rfl
  have x2 := cell_of hX1 2 (v := .int .i64 as_) rfl
  have x3 := cell_of hX1 3 (v := .int .i64 an) rfl
  have x4 := cell_of hX1 4 (v := .int .i64 al) rfl
  have HX1 := Lib.hid hX1
  have HX2 := Lib.hid hX2
  clear hk0 hX1 hX2 hX
  go_upto_region 2 with fail
  have hka := (Kp.refl (fun _ => False) w0).alloc (.cells #[.int .i64 ai, .int .i64 ae, .int .i64 as_, .int .i64 an, .slice none 0 0, .int .i64 al] 47)
  have hz0 := heap_new w0 (.cells #[.int .i64 ai, .int .i64 ae, .int .i64 as_, .int .i64 an, .slice none 0 0, .int .i64 al] 47)
  rw [hs0] at hz0
  have hz00 : (w0.alloc (.cells #[.int .i64 ai, .int .i64 ae, .int .i64 as_, .int .i64 an, .slice none 0 0, .int .i64 al] 47)).heap.size = X + 3 := by simp [hs0]
  have H1 := Lib.hid (hka.heap HX1.out (fun h => h))
  have H2 := Lib.hid (hka.heap HX2.out (fun h => h))
  have H3 := Lib.hid hz0
  have HK1 := Lib.hid (HK0.out.trans hka)
  clear HX1 HX2 HK0 hka hz0 x0 x1 x2 x3 x4 hs0
  generalize w0.alloc (.cells #[.int .i64 ai, .int .i64 ae, .int .i64 as_, .int .i64 an, .slice none 0 0, .int .i64 al] 47) = w1 at H1 H2 H3 HK1 hz00 ⊢
  go_wp2_with fail
  have hmn : rl.length ≤ 5864062014805 := by have := HM.out; omega
  go_loopw [4] (fun q wr => ∃ (k : Nat) (new : List RecV) (na : Option Addr) (nc : Nat), q = .int .i64 k ∧ k ≤ rl.length ∧ new.length = k ∧ wr.heap[X]? = some (.cells #[.int .i64 ai, .int .i64 ae, .int .i64 as_, .int .i64 an, .int .i64 al, .slice ra rl.length rc] 56 (0, 0)) ∧ wr.heap[X + 1]? = some (.cells #[.int .i64 0, .int .i64 0, .int .i64 0, .int .i64 0, .slice none 0 0, .int .i64 0] 47 (0, 0)) ∧ wr.heap[X + 2]? = some (.cells #[.int .i64 ai, .int .i64 ae, .int .i64 as_, .int .i64 an, .slice na k nc, .int .i64 al] 47 (0, 0)) ∧
    Owns wr (X + 3) 30 1 na k nc (new.map RecV.val) ∧ CopiedB wr (X + 3) rl new ∧ (∀ r ∈ new, ∀ g, blockOf r.a = some g → blockOf na ≠ some g) ∧ Kp (fun _ => False) w wr) (fun q _ => rl.length - (intOf q).toNat)
  case atStart => exact ⟨0, [], none, 0, rfl, Nat.zero_le _, rfl, H1.out, H2.out, H3.out, Owns.nil _ _ _ _, ⟨⟨by simp, fun k r h => by simp at h, fun r h => by simp at h⟩, fun r h => by simp at h⟩, fun r h => by simp at h, HK1.out⟩
  case round =>
    clear H1 H2 H3 HK1 hz00
    obtain ⟨k, new, na, nc, rfl, hk, hnl, h1, h2, h3, ho, hcp, hfr, hK⟩ := hrel
    have hwX := lt_of_block h3
    have H1 := Lib.hid h1
    have H2 := Lib.hid h2
    have H3 := Lib.hid h3
    have HO := Lib.hid ho
    have HCP := Lib.hid hcp
    have HFR := Lib.hid hfr
    have HK := Lib.hid hK
    have HNL := Lib.hid hnl
    clear h1 h2 h3 ho hcp hfr hK hnl
    by_cases hlt : k < rl.length
    · obtain ⟨r, hr⟩ : ∃ r, r = rl[k] := ⟨_, rfl⟩
      have hmem : r ∈ rl := by rw [hr]; exact List.getElem_mem hlt
      have hget : rl[k]? = some r := by rw [List.getElem?_eq_getElem hlt, hr]
      have hvk : (rl.map RecV.val)[k]? = some r.val := by rw [List.getElem?_map, hget]; rfl
      obtain ⟨rb, ro, rfl, rcell⟩ := (HR.out.no HK.out) k _ hvk
      have hrbX : rb < X := by
        obtain ⟨rb', ro', e', rc'⟩ := HR.out k _ hvk
        simp only [Option.some.injEq, Addr.mk.injEq, and_true] at e'
        rw [e'.1, HX.out]
        exact World.block_lt_of_cell? (a := ⟨rb', ro' + k, none⟩) w rc'
      have rcell' : wr.cell? ⟨rb, ro + k, none⟩ = some (.slice r.a r.d.length r.c) := rcell
      have hkI : (k : Int) < (rl.length : Int) := by omega
      have hk0 : (0 : Int) ≤ (k : Int) := by omega
      have HRI := Lib.hid (HI.out r hmem)
      have HGET := Lib.hid hget
      have x5 : wr.cell? ⟨X, 5, none⟩ = some (.slice (some ⟨rb, ro, none⟩) rl.length rc) := cell_of H1.out 5 rfl
      clear hr hmem hget hvk rcell
      go_upto_region 5 with fail
      refine wp_region_held_drew (S := fun w' => w'.heap[X]? = some (.cells #[.int .i64 ai, .int .i64 ae, .int .i64 as_, .int .i64 an, .int .i64 al, .slice (some ⟨rb, ro, none⟩) rl.length rc] 56 (0, 0)) ∧ w'.cell? ⟨rb, ro + k, none⟩ = some (.slice r.a r.d.length r.c)) (by kernel_rfl) ⟨H1.out, rcell'⟩ (fun hHeld => ?_)
      have hz : wr.drew.heap[X + 2]? = _ := H3.out
      have hk : Kp (fun _ => False) wr wr.drew := (Kp.refl _ _).drew
      have ho := HO.out.kp hk (fun _ _ h => h)
      clear x5 rcell'
      generalize wr.drew = y0 at hHeld hz hk ho ⊢
      refine wpAnyH_take (i := 0) (v := ?_) rfl (by kernel_rfl) (by kernel_rfl) (by kernel_rfl) (fun _ _ _ h => h) (Or.inl ⟨by rfl, ?_⟩) (by assumption) ?_
      rotate_left
      · intro w hSw
        try dsimp only at hSw
        go_simp
        try with_reducible rfl
      try simp only [Act.put, List.getElem_toArray, List.getElem_cons_zero, List.getElem_cons_succ, List.setIfInBounds_toArray, List.set_cons_zero, List.set_cons_succ]
      refine wpAnyH_take (i := 3) (v := ?_) rfl (by kernel_rfl) (by kernel_rfl) (by kernel_rfl) (fun _ _ _ h => h) (Or.inl ⟨by rfl, ?_⟩) (by assumption) ?_
      rotate_left
      · intro w hSw
        try dsimp only at hSw
        go_simp
        try with_reducible rfl
      try simp only [Act.put, List.getElem_toArray, List.getElem_cons_zero, List.getElem_cons_succ, List.setIfInBounds_toArray, List.set_cons_zero, List.set_cons_succ]
      refine wpAnyH_take (i := 4) (v := .slice (some ⟨rb, ro, none⟩) rl.length rc) rfl (by kernel_rfl) (by kernel_rfl) (by kernel_rfl) (fun _ _ _ h => h) (Or.inl ⟨by rfl, ?_⟩) (by assumption) ?_
      · intro w hSw
        have hc := cell_of hSw.1 5 (v := .slice (some ⟨rb, ro, none⟩) rl.length rc) rfl
        try dsimp only at hSw
        go_simp
        try with_reducible rfl
      try simp only [Act.put, List.getElem_toArray, List.getElem_cons_zero, List.getElem_cons_succ, List.setIfInBounds_toArray, List.set_cons_zero, List.set_cons_succ]
      refine wpAnyH_take (i := 5) (v := ?_) rfl (by kernel_rfl) (by kernel_rfl) (by kernel_rfl) (fun _ _ _ h => h) (Or.inl ⟨by rfl, ?_⟩) (by assumption) ?_
      rotate_left
      · intro w hSw
        try dsimp only at hSw
        go_simp
        try with_reducible rfl
      try simp only [Act.put, List.getElem_toArray, List.getElem_cons_zero, List.getElem_cons_succ, List.setIfInBounds_toArray, List.set_cons_zero, List.set_cons_succ]
      refine wpAnyH_take (i := 6) (v := ?_) rfl (by kernel_rfl) (by kernel_rfl) (by kernel_rfl) (fun _ _ _ h => h) (Or.inl ⟨by rfl, ?_⟩) (by assumption) ?_
      rotate_left
      · intro w hSw
        try dsimp only at hSw
        go_simp
        try with_reducible rfl
      try simp only [Act.put, List.getElem_toArray, List.getElem_cons_zero, List.getElem_cons_succ, List.setIfInBounds_toArray, List.set_cons_zero, List.set_cons_succ]
      refine wpAnyH_take (i := 7) (v := .slice r.a r.d.length r.c) rfl (by kernel_rfl) (by kernel_rfl) (by kernel_rfl) (fun _ _ _ h => h) (Or.inl ⟨by rfl, ?_⟩) (by assumption) ?_
      · intro w hSw
        have hc := hSw.2
        try dsimp only at hSw
        go_simp
        try with_reducible rfl
      try simp only [Act.put, List.getElem_toArray, List.getElem_cons_zero, List.getElem_cons_succ, List.setIfInBounds_toArray, List.set_cons_zero, List.set_cons_succ]
      refine wpAnyH_ready (rs := [1, 2]) (by kernel_rfl) (by simp) ?_
      refine AllReadyH.cons rfl (fun K hK => ?_) (AllReadyH.cons rfl (fun K hK => ?_) (AllReadyH.nil))
      · have hsk := hk.size
        have c4 := cell_of hz 4 (v := .slice na k nc) rfl
        go_simp
        refine hK.out _ _ hHeld (fun hHeld => ?_)
        clear hK K c4
        try simp only [Act.put, List.getElem_toArray, List.getElem_cons_zero, List.getElem_cons_succ, List.setIfInBounds_toArray, List.set_cons_zero, List.set_cons_succ]
        refine wpAnyH_ready (rs := [2]) (by kernel_rfl) (by simp) ?_
        refine AllReadyH.cons rfl (fun K hK => ?_) (AllReadyH.nil)
        · have hsk := hk.size
          go_simp
          refine hK.out _ _ ⟨heap_old _ hHeld.1, cell_old (.cells #[] 5) hHeld.2⟩ (fun hHeld => ?_)
          clear hK K
          try simp only [Act.put, List.getElem_toArray, List.getElem_cons_zero, List.getElem_cons_succ, List.setIfInBounds_toArray, List.set_cons_zero, List.set_cons_succ]
          have hL := heap_new y0 (.cells #[] 5)
          replace hk := hk.alloc (.cells #[] 5)
          replace hz := heap_old (.cells #[] 5) hz
          replace ho := ho.kp (S := fun _ => False) ((Kp.refl _ _).alloc (.cells #[] 5)) (fun _ _ h => h)
          obtain ⟨L, hLe⟩ : ∃ L, L = y0.heap.size := ⟨_, rfl⟩
          rw [← hLe] at hL ⊢
          have lL : wr.heap.size ≤ L := by omega
          clear hLe hsk
          generalize y0.alloc (.cells #[] 5) = y1 at *
          refine wpAnyH_ready (rs := [8]) (by kernel_rfl) (by simp) ?_
          refine AllReadyH.cons rfl (fun K hK => ?_) (AllReadyH.nil)
          · have hsk := hk.size
            have hLs := lt_of_block hL
            refine step_app_any (by rfl) _ _ 30 (by rfl) L 5 info5 Try.underlying30 rfl (by decide) (by rfl) (Owns.lit hL (Nat.le_refl _)) (b := r.a) (m := r.d.length) (c := r.c) (news := bytes r.d) (by rfl) (by rw [bytes_length]; omega) ((HRI.out.1.no (HK.out.trans hk)).news) (one_bytes r.d) (by have := HRI.out.2; unfold maxLen; omega) (by have := HRI.out.2; omega) (by omega) ?_
            intro ba bc y2 hb hkn _
            rw [Nat.zero_add, List.nil_append] at hb
            have hkn : Kp (fun j => j = L) y1 y2 := hkn.mono (fun j _ h => Option.some.inj h)
            refine hK.out _ _ ⟨hkn.heap hHeld.1 (by omega), (hkn.cell (p := ⟨rb, ro + k, none⟩) (World.block_lt_of_cell? _ _ hHeld.2) (by show ¬ rb = L; omega)).trans hHeld.2⟩ (fun hHeld => ?_)
            clear hK K
            try simp only [Act.put, List.getElem_toArray, List.getElem_cons_zero, List.getElem_cons_succ, List.setIfInBounds_toArray, List.set_cons_zero, List.set_cons_succ]
            rw [Nat.zero_add]
            replace hz := hkn.heap hz (by omega)
            replace ho := ho.kp hkn (fun g hg (e : g = L) => by have := (HO.out.from hg).2; omega)
            replace hk := hk.andThen hkn (fun j hj (e : j = L) => by omega)
            clear hkn hL hsk
            refine wpAnyH_ready (rs := [9]) (by kernel_rfl) (by simp) ?_
            refine AllReadyH.cons rfl (fun K hK => ?_) (AllReadyH.nil)
            · have hsk := hk.size
              go_simp
              refine hK.out _ _ ⟨heap_old _ hHeld.1, cell_old (.cells #[.slice ba r.d.length bc] 30) hHeld.2⟩ (fun hHeld => ?_)
              clear hK K
              try simp only [Act.put, List.getElem_toArray, List.getElem_cons_zero, List.getElem_cons_succ, List.setIfInBounds_toArray, List.set_cons_zero, List.set_cons_succ]
              have hM := heap_new y2 (.cells #[.slice ba r.d.length bc] 30)
              replace hk := hk.alloc (.cells #[.slice ba r.d.length bc] 30)
              replace hz := heap_old (.cells #[.slice ba r.d.length bc] 30) hz
              replace ho := ho.kp (S := fun _ => False) ((Kp.refl _ _).alloc (.cells #[.slice ba r.d.length bc] 30)) (fun _ _ h => h)
              have nM : ∀ g, blockOf ba = some g → g < y2.heap.size := fun g hg => (hb.from hg).2
              replace hb := hb.kp (S := fun _ => False) ((Kp.refl _ _).alloc (.cells #[.slice ba r.d.length bc] 30)) (fun _ _ h => h)
              obtain ⟨M, hMe⟩ : ∃ M, M = y2.heap.size := ⟨_, rfl⟩
              rw [← hMe] at hM nM ⊢
              have lM : wr.heap.size ≤ M := by omega
              clear hMe hsk
              generalize y2.alloc (.cells #[.slice ba r.d.length bc] 30) = y3 at *
              refine wpAnyH_ready (rs := [10]) (by kernel_rfl) (by simp) ?_
              refine AllReadyH.cons rfl (fun K hK => ?_) (AllReadyH.nil)
              · have hsk := hk.size
                have hMs := lt_of_block hM
                refine step_app_any (by rfl) _ _ 45 (by rfl) (X + 3) 30 info30 Try.underlying45 rfl (by decide) (by rfl) ho (b := some ⟨M, 0, none⟩) (m := 1) (c := 1) (news := [.slice ba r.d.length bc]) (by rfl) (by rfl) (Row.news (row_block hM)) (by simp [Value.oneCell']) (by have := HM.out; unfold maxLen; omega) (by have := HM.out; omega) (by omega) ?_
                intro na' nc' y4 ho2 hkn hmv0
                have hb2 := hb.kp hkn (fun g hg e => by have h1 := (hb.from hg).1; have h2 := (HO.out.from e.symm).2; omega)
                refine hK.out _ _ ⟨hkn.heap hHeld.1 (fun e => by have := (HO.out.from e.symm).1; omega), (hkn.cell (p := ⟨rb, ro + k, none⟩) (World.block_lt_of_cell? _ _ hHeld.2) (fun e => by have h2 : X + 3 ≤ rb := (HO.out.from e.symm).1; omega)).trans hHeld.2⟩ (fun hHeld => ?_)
                clear hK K
                try simp only [Act.put, List.getElem_toArray, List.getElem_cons_zero, List.getElem_cons_succ, List.setIfInBounds_toArray, List.set_cons_zero, List.set_cons_succ]
                have hz2 := hkn.heap hz (fun e => by have := (HO.out.from e.symm).1; omega)
                have hne : ∀ g, blockOf ba = some g → blockOf na' ≠ some g := fun g hg e => by
                  have h1 := (hb.from hg).1
                  have h3 := nM g hg
                  rcases hmv0 with h | h
                  · have h2 := (HO.out.from (h ▸ e)).2; omega
                  · have h2 := Option.some.inj (h.symm.trans e); omega
                have hmv : blockOf na' = blockOf na ∨ ∀ g, blockOf na' = some g → wr.heap.size ≤ g := hmv0.imp_right (fun h g e => by have h2 := Option.some.inj (h.symm.trans e); omega)
                have hkm : Kp (fun j => some j = blockOf na ∨ j = X + 2) wr y4 := (hk.mono (S' := fun j => some j = blockOf na ∨ j = X + 2) (fun _ _ h => h.elim)).trans (hkn.mono (fun j _ h => .inl h))
                refine wpAnyH_take (i := 11) (v := ?_) rfl (by kernel_rfl) (by kernel_rfl) (by kernel_rfl) (fun _ _ _ h => h) (Or.inl ⟨by rfl, ?_⟩) (by assumption) ?_
                rotate_left
                · intro w hSw
                  try dsimp only at hSw
                  go_simp
                  try with_reducible rfl
                try simp only [Act.put, List.getElem_toArray, List.getElem_cons_zero, List.getElem_cons_succ, List.setIfInBounds_toArray, List.set_cons_zero, List.set_cons_succ]
                refine wpAnyH_ready (rs := [12]) (by kernel_rfl) (by simp) ?_
                refine AllReadyH.cons rfl (fun K hK => ?_) (AllReadyH.nil)
                · have hsk := hk.size
                  have f4 := free_of hz2 4
                  have c4 := cell_of hz2 4 (v := .slice na k nc) rfl
                  go_simp
                  have hk3 := hkm.setCell (p := ⟨X + 2, 4, none⟩) (.inl (.inr rfl)) (.slice na' (k + 1) nc')
                  refine hK.out _ _ ⟨heap_set_other _ _ hHeld.1 (by show X ≠ X + 2; omega), far_cell hHeld.2 (by show rb ≠ X + 2; omega)⟩ (fun hHeld => ?_)
                  clear hK K f4 c4
                  try simp only [Act.put, List.getElem_toArray, List.getElem_cons_zero, List.getElem_cons_succ, List.setIfInBounds_toArray, List.set_cons_zero, List.set_cons_succ]
                  have hkz : Kp (fun j => j = X + 2) y4 (y4.setCell ⟨X + 2, 4, none⟩ (.slice na' (k + 1) nc')) := (Kp.refl (fun j => j = X + 2) _).setCell (p := ⟨X + 2, 4, none⟩) (.inl rfl) _
                  have ho3 := ho2.kp hkz (fun g hg (e : g = X + 2) => by have := (ho2.from hg).1; omega)
                  have hb3 := Owns.base (B' := wr.heap.size) (hb2.kp hkz (fun g hg (e : g = X + 2) => by have := (hb2.from hg).1; omega)) lL
                  replace hz2 := heap_set hz2 4 (.slice na' (k + 1) nc')
                  refine wpAnyH_done (by kernel_rfl) ?_ _
                  go_wp2_with fail
                  obtain ⟨e1, e2, e3, e4⟩ := ansb_step HNL.out hlt HGET.out (by omega) HO.out HCP.out HFR.out ho3 hb3 hne hmv hk3
                  have hnaX : ∀ g, blockOf na = some g → X + 3 ≤ g ∧ g < wr.heap.size := fun g hg => HO.out.from hg
                  go_roundw
                  case rel => exact ⟨k + 1, _, na', nc', by go_num, by omega, e1, hk3.heap H1.out (fun e => e.elim (fun e => by have := (hnaX X e.symm).1; omega) (fun e => by omega)), hk3.heap H2.out (fun e => e.elim (fun e => by have := (hnaX (X + 1) e.symm).1; omega) (fun e => by omega)), hz2, e2, e3, e4, HK.out.andThen hk3 (fun j hj e => e.elim (fun e => by have := (hnaX j e.symm).1; have := HX.out; omega) (fun e => by have := HX.out; omega))⟩
                  case measure => simp [intOf]; omega
      · have hsk := hk.size
        go_simp
        refine hK.out _ _ ⟨heap_old _ hHeld.1, cell_old (.cells #[] 5) hHeld.2⟩ (fun hHeld => ?_)
        clear hK K
        try simp only [Act.put, List.getElem_toArray, List.getElem_cons_zero, List.getElem_cons_succ, List.setIfInBounds_toArray, List.set_cons_zero, List.set_cons_succ]
        have hL := heap_new y0 (.cells #[] 5)
        replace hk := hk.alloc (.cells #[] 5)
        replace hz := heap_old (.cells #[] 5) hz
        replace ho := ho.kp (S := fun _ => False) ((Kp.refl _ _).alloc (.cells #[] 5)) (fun _ _ h => h)
        obtain ⟨L, hLe⟩ : ∃ L, L = y0.heap.size := ⟨_, rfl⟩
        rw [← hLe] at hL ⊢
        have lL : wr.heap.size ≤ L := by omega
        clear hLe hsk
        generalize y0.alloc (.cells #[] 5) = y1 at *
        refine wpAnyH_ready (rs := [1, 8]) (by kernel_rfl) (by simp) ?_
        refine AllReadyH.cons rfl (fun K hK => ?_) (AllReadyH.cons rfl (fun K hK => ?_) (AllReadyH.nil))
        · have hsk := hk.size
          have c4 := cell_of hz 4 (v := .slice na k nc) rfl
          go_simp
          refine hK.out _ _ hHeld (fun hHeld => ?_)
          clear hK K c4
          try simp only [Act.put, List.getElem_toArray, List.getElem_cons_zero, List.getElem_cons_succ, List.setIfInBounds_toArray, List.set_cons_zero, List.set_cons_succ]
          refine wpAnyH_ready (rs := [8]) (by kernel_rfl) (by simp) ?_
          refine AllReadyH.cons rfl (fun K hK => ?_) (AllReadyH.nil)
          · have hsk := hk.size
            have hLs := lt_of_block hL
            refine step_app_any (by rfl) _ _ 30 (by rfl) L 5 info5 Try.underlying30 rfl (by decide) (by rfl) (Owns.lit hL (Nat.le_refl _)) (b := r.a) (m := r.d.length) (c := r.c) (news := bytes r.d) (by rfl) (by rw [bytes_length]; omega) ((HRI.out.1.no (HK.out.trans hk)).news) (one_bytes r.d) (by have := HRI.out.2; unfold maxLen; omega) (by have := HRI.out.2; omega) (by omega) ?_
            intro ba bc y2 hb hkn _
            rw [Nat.zero_add, List.nil_append] at hb
            have hkn : Kp (fun j => j = L) y1 y2 := hkn.mono (fun j _ h => Option.some.inj h)
            refine hK.out _ _ ⟨hkn.heap hHeld.1 (by omega), (hkn.cell (p := ⟨rb, ro + k, none⟩) (World.block_lt_of_cell? _ _ hHeld.2) (by show ¬ rb = L; omega)).trans hHeld.2⟩ (fun hHeld => ?_)
            clear hK K
            try simp only [Act.put, List.getElem_toArray, List.getElem_cons_zero, List.getElem_cons_succ, List.setIfInBounds_toArray, List.set_cons_zero, List.set_cons_succ]
            rw [Nat.zero_add]
            replace hz := hkn.heap hz (by omega)
            replace ho := ho.kp hkn (fun g hg (e : g = L) => by have := (HO.out.from hg).2; omega)
            replace hk := hk.andThen hkn (fun j hj (e : j = L) => by omega)
            clear hkn hL hsk
            refine wpAnyH_ready (rs := [9]) (by kernel_rfl) (by simp) ?_
            refine AllReadyH.cons rfl (fun K hK => ?_) (AllReadyH.nil)
            · have hsk := hk.size
              go_simp
              refine hK.out _ _ ⟨heap_old _ hHeld.1, cell_old (.cells #[.slice ba r.d.length bc] 30) hHeld.2⟩ (fun hHeld => ?_)
              clear hK K
              try simp only [Act.put, List.getElem_toArray, List.getElem_cons_zero, List.getElem_cons_succ, List.setIfInBounds_toArray, List.set_cons_zero, List.set_cons_succ]
              have hM := heap_new y2 (.cells #[.slice ba r.d.length bc] 30)
              replace hk := hk.alloc (.cells #[.slice ba r.d.length bc] 30)
              replace hz := heap_old (.cells #[.slice ba r.d.length bc] 30) hz
              replace ho := ho.kp (S := fun _ => False) ((Kp.refl _ _).alloc (.cells #[.slice ba r.d.length bc] 30)) (fun _ _ h => h)
              have nM : ∀ g, blockOf ba = some g → g < y2.heap.size := fun g hg => (hb.from hg).2
              replace hb := hb.kp (S := fun _ => False) ((Kp.refl _ _).alloc (.cells #[.slice ba r.d.length bc] 30)) (fun _ _ h => h)
              obtain ⟨M, hMe⟩ : ∃ M, M = y2.heap.size := ⟨_, rfl⟩
              rw [← hMe] at hM nM ⊢
              have lM : wr.heap.size ≤ M := by omega
              clear hMe hsk
              generalize y2.alloc (.cells #[.slice ba r.d.length bc] 30) = y3 at *
              refine wpAnyH_ready (rs := [10]) (by kernel_rfl) (by simp) ?_
              refine AllReadyH.cons rfl (fun K hK => ?_) (AllReadyH.nil)
              · have hsk := hk.size
                have hMs := lt_of_block hM
                refine step_app_any (by rfl) _ _ 45 (by rfl) (X + 3) 30 info30 Try.underlying45 rfl (by decide) (by rfl) ho (b := some ⟨M, 0, none⟩) (m := 1) (c := 1) (news := [.slice ba r.d.length bc]) (by rfl) (by rfl) (Row.news (row_block hM)) (by simp [Value.oneCell']) (by have := HM.out; unfold maxLen; omega) (by have := HM.out; omega) (by omega) ?_
                intro na' nc' y4 ho2 hkn hmv0
                have hb2 := hb.kp hkn (fun g hg e => by have h1 := (hb.from hg).1; have h2 := (HO.out.from e.symm).2; omega)
                refine hK.out _ _ ⟨hkn.heap hHeld.1 (fun e => by have := (HO.out.from e.symm).1; omega), (hkn.cell (p := ⟨rb, ro + k, none⟩) (World.block_lt_of_cell? _ _ hHeld.2) (fun e => by have h2 : X + 3 ≤ rb := (HO.out.from e.symm).1; omega)).trans hHeld.2⟩ (fun hHeld => ?_)
                clear hK K
                try simp only [Act.put, List.getElem_toArray, List.getElem_cons_zero, List.getElem_cons_succ, List.setIfInBounds_toArray, List.set_cons_zero, List.set_cons_succ]
                have hz2 := hkn.heap hz (fun e => by have := (HO.out.from e.symm).1; omega)
                have hne : ∀ g, blockOf ba = some g → blockOf na' ≠ some g := fun g hg e => by
                  have h1 := (hb.from hg).1
                  have h3 := nM g hg
                  rcases hmv0 with h | h
                  · have h2 := (HO.out.from (h ▸ e)).2; omega
                  · have h2 := Option.some.inj (h.symm.trans e); omega
                have hmv : blockOf na' = blockOf na ∨ ∀ g, blockOf na' = some g → wr.heap.size ≤ g := hmv0.imp_right (fun h g e => by have h2 := Option.some.inj (h.symm.trans e); omega)
                have hkm : Kp (fun j => some j = blockOf na ∨ j = X + 2) wr y4 := (hk.mono (S' := fun j => some j = blockOf na ∨ j = X + 2) (fun _ _ h => h.elim)).trans (hkn.mono (fun j _ h => .inl h))
                refine wpAnyH_take (i := 11) (v := ?_) rfl (by kernel_rfl) (by kernel_rfl) (by kernel_rfl) (fun _ _ _ h => h) (Or.inl ⟨by rfl, ?_⟩) (by assumption) ?_
                rotate_left
                · intro w hSw
                  try dsimp only at hSw
                  go_simp
                  try with_reducible rfl
                try simp only [Act.put, List.getElem_toArray, List.getElem_cons_zero, List.getElem_cons_succ, List.setIfInBounds_toArray, List.set_cons_zero, List.set_cons_succ]
                refine wpAnyH_ready (rs := [12]) (by kernel_rfl) (by simp) ?_
                refine AllReadyH.cons rfl (fun K hK => ?_) (AllReadyH.nil)
                · have hsk := hk.size
                  have f4 := free_of hz2 4
                  have c4 := cell_of hz2 4 (v := .slice na k nc) rfl
                  go_simp
                  have hk3 := hkm.setCell (p := ⟨X + 2, 4, none⟩) (.inl (.inr rfl)) (.slice na' (k + 1) nc')
                  refine hK.out _ _ ⟨heap_set_other _ _ hHeld.1 (by show X ≠ X + 2; omega), far_cell hHeld.2 (by show rb ≠ X + 2; omega)⟩ (fun hHeld => ?_)
                  clear hK K f4 c4
                  try simp only [Act.put, List.getElem_toArray, List.getElem_cons_zero, List.getElem_cons_succ, List.setIfInBounds_toArray, List.set_cons_zero, List.set_cons_succ]
                  have hkz : Kp (fun j => j = X + 2) y4 (y4.setCell ⟨X + 2, 4, none⟩ (.slice na' (k + 1) nc')) := (Kp.refl (fun j => j = X + 2) _).setCell (p := ⟨X + 2, 4, none⟩) (.inl rfl) _
                  have ho3 := ho2.kp hkz (fun g hg (e : g = X + 2) => by have := (ho2.from hg).1; omega)
                  have hb3 := Owns.base (B' := wr.heap.size) (hb2.kp hkz (fun g hg (e : g = X + 2) => by have := (hb2.from hg).1; omega)) lL
                  replace hz2 := heap_set hz2 4 (.slice na' (k + 1) nc')
                  refine wpAnyH_done (by kernel_rfl) ?_ _
                  go_wp2_with fail
                  obtain ⟨e1, e2, e3, e4⟩ := ansb_step HNL.out hlt HGET.out (by omega) HO.out HCP.out HFR.out ho3 hb3 hne hmv hk3
                  have hnaX : ∀ g, blockOf na = some g → X + 3 ≤ g ∧ g < wr.heap.size := fun g hg => HO.out.from hg
                  go_roundw
                  case rel => exact ⟨k + 1, _, na', nc', by go_num, by omega, e1, hk3.heap H1.out (fun e => e.elim (fun e => by have := (hnaX X e.symm).1; omega) (fun e => by omega)), hk3.heap H2.out (fun e => e.elim (fun e => by have := (hnaX (X + 1) e.symm).1; omega) (fun e => by omega)), hz2, e2, e3, e4, HK.out.andThen hk3 (fun j hj e => e.elim (fun e => by have := (hnaX j e.symm).1; have := HX.out; omega) (fun e => by have := HX.out; omega))⟩
                  case measure => simp [intOf]; omega
        · have hsk := hk.size
          have hLs := lt_of_block hL
          refine step_app_any (by rfl) _ _ 30 (by rfl) L 5 info5 Try.underlying30 rfl (by decide) (by rfl) (Owns.lit hL (Nat.le_refl _)) (b := r.a) (m := r.d.length) (c := r.c) (news := bytes r.d) (by rfl) (by rw [bytes_length]; omega) ((HRI.out.1.no (HK.out.trans hk)).news) (one_bytes r.d) (by have := HRI.out.2; unfold maxLen; omega) (by have := HRI.out.2; omega) (by omega) ?_
          intro ba bc y2 hb hkn _
          rw [Nat.zero_add, List.nil_append] at hb
          have hkn : Kp (fun j => j = L) y1 y2 := hkn.mono (fun j _ h => Option.some.inj h)
          refine hK.out _ _ ⟨hkn.heap hHeld.1 (by omega), (hkn.cell (p := ⟨rb, ro + k, none⟩) (World.block_lt_of_cell? _ _ hHeld.2) (by show ¬ rb = L; omega)).trans hHeld.2⟩ (fun hHeld => ?_)
          clear hK K
          try simp only [Act.put, List.getElem_toArray, List.getElem_cons_zero, List.getElem_cons_succ, List.setIfInBounds_toArray, List.set_cons_zero, List.set_cons_succ]
          rw [Nat.zero_add]
          replace hz := hkn.heap hz (by omega)
          replace ho := ho.kp hkn (fun g hg (e : g = L) => by have := (HO.out.from hg).2; omega)
          replace hk := hk.andThen hkn (fun j hj (e : j = L) => by omega)
          clear hkn hL hsk
          refine wpAnyH_ready (rs := [1, 9]) (by kernel_rfl) (by simp) ?_
          refine AllReadyH.cons rfl (fun K hK => ?_) (AllReadyH.cons rfl (fun K hK => ?_) (AllReadyH.nil))
          · have hsk := hk.size
            have c4 := cell_of hz 4 (v := .slice na k nc) rfl
            go_simp
            refine hK.out _ _ hHeld (fun hHeld => ?_)
            clear hK K c4
            try simp only [Act.put, List.getElem_toArray, List.getElem_cons_zero, List.getElem_cons_succ, List.setIfInBounds_toArray, List.set_cons_zero, List.set_cons_succ]
            refine wpAnyH_ready (rs := [9]) (by kernel_rfl) (by simp) ?_
            refine AllReadyH.cons rfl (fun K hK => ?_) (AllReadyH.nil)
            · have hsk := hk.size
              go_simp
              refine hK.out _ _ ⟨heap_old _ hHeld.1, cell_old (.cells #[.slice ba r.d.length bc] 30) hHeld.2⟩ (fun hHeld => ?_)
              clear hK K
              try simp only [Act.put, List.getElem_toArray, List.getElem_cons_zero, List.getElem_cons_succ, List.setIfInBounds_toArray, List.set_cons_zero, List.set_cons_succ]
              have hM := heap_new y2 (.cells #[.slice ba r.d.length bc] 30)
              replace hk := hk.alloc (.cells #[.slice ba r.d.length bc] 30)
              replace hz := heap_old (.cells #[.slice ba r.d.length bc] 30) hz
              replace ho := ho.kp (S := fun _ => False) ((Kp.refl _ _).alloc (.cells #[.slice ba r.d.length bc] 30)) (fun _ _ h => h)
              have nM : ∀ g, blockOf ba = some g → g < y2.heap.size := fun g hg => (hb.from hg).2
              replace hb := hb.kp (S := fun _ => False) ((Kp.refl _ _).alloc (.cells #[.slice ba r.d.length bc] 30)) (fun _ _ h => h)
              obtain ⟨M, hMe⟩ : ∃ M, M = y2.heap.size := ⟨_, rfl⟩
              rw [← hMe] at hM nM ⊢
              have lM : wr.heap.size ≤ M := by omega
              clear hMe hsk
              generalize y2.alloc (.cells #[.slice ba r.d.length bc] 30) = y3 at *
              refine wpAnyH_ready (rs := [10]) (by kernel_rfl) (by simp) ?_
              refine AllReadyH.cons rfl (fun K hK => ?_) (AllReadyH.nil)
              · have hsk := hk.size
                have hMs := lt_of_block hM
                refine step_app_any (by rfl) _ _ 45 (by rfl) (X + 3) 30 info30 Try.underlying45 rfl (by decide) (by rfl) ho (b := some ⟨M, 0, none⟩) (m := 1) (c := 1) (news := [.slice ba r.d.length bc]) (by rfl) (by rfl) (Row.news (row_block hM)) (by simp [Value.oneCell']) (by have := HM.out; unfold maxLen; omega) (by have := HM.out; omega) (by omega) ?_
                intro na' nc' y4 ho2 hkn hmv0
                have hb2 := hb.kp hkn (fun g hg e => by have h1 := (hb.from hg).1; have h2 := (HO.out.from e.symm).2; omega)
                refine hK.out _ _ ⟨hkn.heap hHeld.1 (fun e => by have := (HO.out.from e.symm).1; omega), (hkn.cell (p := ⟨rb, ro + k, none⟩) (World.block_lt_of_cell? _ _ hHeld.2) (fun e => by have h2 : X + 3 ≤ rb := (HO.out.from e.symm).1; omega)).trans hHeld.2⟩ (fun hHeld => ?_)
                clear hK K
                try simp only [Act.put, List.getElem_toArray, List.getElem_cons_zero, List.getElem_cons_succ, List.setIfInBounds_toArray, List.set_cons_zero, List.set_cons_succ]
                have hz2 := hkn.heap hz (fun e => by have := (HO.out.from e.symm).1; omega)
                have hne : ∀ g, blockOf ba = some g → blockOf na' ≠ some g := fun g hg e => by
                  have h1 := (hb.from hg).1
                  have h3 := nM g hg
                  rcases hmv0 with h | h
                  · have h2 := (HO.out.from (h ▸ e)).2; omega
                  · have h2 := Option.some.inj (h.symm.trans e); omega
                have hmv : blockOf na' = blockOf na ∨ ∀ g, blockOf na' = some g → wr.heap.size ≤ g := hmv0.imp_right (fun h g e => by have h2 := Option.some.inj (h.symm.trans e); omega)
                have hkm : Kp (fun j => some j = blockOf na ∨ j = X + 2) wr y4 := (hk.mono (S' := fun j => some j = blockOf na ∨ j = X + 2) (fun _ _ h => h.elim)).trans (hkn.mono (fun j _ h => .inl h))
                refine wpAnyH_take (i := 11) (v := ?_) rfl (by kernel_rfl) (by kernel_rfl) (by kernel_rfl) (fun _ _ _ h => h) (Or.inl ⟨by rfl, ?_⟩) (by assumption) ?_
                rotate_left
                · intro w hSw
                  try dsimp only at hSw
                  go_simp
                  try with_reducible rfl
                try simp only [Act.put, List.getElem_toArray, List.getElem_cons_zero, List.getElem_cons_succ, List.setIfInBounds_toArray, List.set_cons_zero, List.set_cons_succ]
                refine wpAnyH_ready (rs := [12]) (by kernel_rfl) (by simp) ?_
                refine AllReadyH.cons rfl (fun K hK => ?_) (AllReadyH.nil)
                · have hsk := hk.size
                  have f4 := free_of hz2 4
                  have c4 := cell_of hz2 4 (v := .slice na k nc) rfl
                  go_simp
                  have hk3 := hkm.setCell (p := ⟨X + 2, 4, none⟩) (.inl (.inr rfl)) (.slice na' (k + 1) nc')
                  refine hK.out _ _ ⟨heap_set_other _ _ hHeld.1 (by show X ≠ X + 2; omega), far_cell hHeld.2 (by show rb ≠ X + 2; omega)⟩ (fun hHeld => ?_)
                  clear hK K f4 c4
                  try simp only [Act.put, List.getElem_toArray, List.getElem_cons_zero, List.getElem_cons_succ, List.setIfInBounds_toArray, List.set_cons_zero, List.set_cons_succ]
                  have hkz : Kp (fun j => j = X + 2) y4 (y4.setCell ⟨X + 2, 4, none⟩ (.slice na' (k + 1) nc')) := (Kp.refl (fun j => j = X + 2) _).setCell (p := ⟨X + 2, 4, none⟩) (.inl rfl) _
                  have ho3 := ho2.kp hkz (fun g hg (e : g = X + 2) => by have := (ho2.from hg).1; omega)
                  have hb3 := Owns.base (B' := wr.heap.size) (hb2.kp hkz (fun g hg (e : g = X + 2) => by have := (hb2.from hg).1; omega)) lL
                  replace hz2 := heap_set hz2 4 (.slice na' (k + 1) nc')
                  refine wpAnyH_done (by kernel_rfl) ?_ _
                  go_wp2_with fail
                  obtain ⟨e1, e2, e3, e4⟩ := ansb_step HNL.out hlt HGET.out (by omega) HO.out HCP.out HFR.out ho3 hb3 hne hmv hk3
                  have hnaX : ∀ g, blockOf na = some g → X + 3 ≤ g ∧ g < wr.heap.size := fun g hg => HO.out.from hg
                  go_roundw
                  case rel => exact ⟨k + 1, _, na', nc', by go_num, by omega, e1, hk3.heap H1.out (fun e => e.elim (fun e => by have := (hnaX X e.symm).1; omega) (fun e => by omega)), hk3.heap H2.out (fun e => e.elim (fun e => by have := (hnaX (X + 1) e.symm).1; omega) (fun e => by omega)), hz2, e2, e3, e4, HK.out.andThen hk3 (fun j hj e => e.elim (fun e => by have := (hnaX j e.symm).1; have := HX.out; omega) (fun e => by have := HX.out; omega))⟩
                  case measure => simp [intOf]; omega
          · have hsk := hk.size
            go_simp
            refine hK.out _ _ ⟨heap_old _ hHeld.1, cell_old (.cells #[.slice ba r.d.length bc] 30) hHeld.2⟩ (fun hHeld => ?_)
            clear hK K
            try simp only [Act.put, List.getElem_toArray, List.getElem_cons_zero, List.getElem_cons_succ, List.setIfInBounds_toArray, List.set_cons_zero, List.set_cons_succ]
            have hM := heap_new y2 (.cells #[.slice ba r.d.length bc] 30)
            replace hk := hk.alloc (.cells #[.slice ba r.d.length bc] 30)
            replace hz := heap_old (.cells #[.slice ba r.d.length bc] 30) hz
            replace ho := ho.kp (S := fun _ => False) ((Kp.refl _ _).alloc (.cells #[.slice ba r.d.length bc] 30)) (fun _ _ h => h)
            have nM : ∀ g, blockOf ba = some g → g < y2.heap.size := fun g hg => (hb.from hg).2
            replace hb := hb.kp (S := fun _ => False) ((Kp.refl _ _).alloc (.cells #[.slice ba r.d.length bc] 30)) (fun _ _ h => h)
            obtain ⟨M, hMe⟩ : ∃ M, M = y2.heap.size := ⟨_, rfl⟩
            rw [← hMe] at hM nM ⊢
            have lM : wr.heap.size ≤ M := by omega
            clear hMe hsk
            generalize y2.alloc (.cells #[.slice ba r.d.length bc] 30) = y3 at *
            refine wpAnyH_ready (rs := [1]) (by kernel_rfl) (by simp) ?_
            refine AllReadyH.cons rfl (fun K hK => ?_) (AllReadyH.nil)
            · have hsk := hk.size
              have c4 := cell_of hz 4 (v := .slice na k nc) rfl
              go_simp
              refine hK.out _ _ hHeld (fun hHeld => ?_)
              clear hK K c4
              try simp only [Act.put, List.getElem_toArray, List.getElem_cons_zero, List.getElem_cons_succ, List.setIfInBounds_toArray, List.set_cons_zero, List.set_cons_succ]
              refine wpAnyH_ready (rs := [10]) (by kernel_rfl) (by simp) ?_
              refine AllReadyH.cons rfl (fun K hK => ?_) (AllReadyH.nil)
              · have hsk := hk.size
                have hMs := lt_of_block hM
                refine step_app_any (by rfl) _ _ 45 (by rfl) (X + 3) 30 info30 Try.underlying45 rfl (by decide) (by rfl) ho (b := some ⟨M, 0, none⟩) (m := 1) (c := 1) (news := [.slice ba r.d.length bc]) (by rfl) (by rfl) (Row.news (row_block hM)) (by simp [Value.oneCell']) (by have := HM.out; unfold maxLen; omega) (by have := HM.out; omega) (by omega) ?_
                intro na' nc' y4 ho2 hkn hmv0
                have hb2 := hb.kp hkn (fun g hg e => by have h1 := (hb.from hg).1; have h2 := (HO.out.from e.symm).2; omega)
                refine hK.out _ _ ⟨hkn.heap hHeld.1 (fun e => by have := (HO.out.from e.symm).1; omega), (hkn.cell (p := ⟨rb, ro + k, none⟩) (World.block_lt_of_cell? _ _ hHeld.2) (fun e => by have h2 : X + 3 ≤ rb := (HO.out.from e.symm).1; omega)).trans hHeld.2⟩ (fun hHeld => ?_)
                clear hK K
                try simp only [Act.put, List.getElem_toArray, List.getElem_cons_zero, List.getElem_cons_succ, List.setIfInBounds_toArray, List.set_cons_zero, List.set_cons_succ]
                have hz2 := hkn.heap hz (fun e => by have := (HO.out.from e.symm).1; omega)
                have hne : ∀ g, blockOf ba = some g → blockOf na' ≠ some g := fun g hg e => by
                  have h1 := (hb.from hg).1
                  have h3 := nM g hg
                  rcases hmv0 with h | h
                  · have h2 := (HO.out.from (h ▸ e)).2; omega
                  · have h2 := Option.some.inj (h.symm.trans e); omega
                have hmv : blockOf na' = blockOf na ∨ ∀ g, blockOf na' = some g → wr.heap.size ≤ g := hmv0.imp_right (fun h g e => by have h2 := Option.some.inj (h.symm.trans e); omega)
                have hkm : Kp (fun j => some j = blockOf na ∨ j = X + 2) wr y4 := (hk.mono (S' := fun j => some j = blockOf na ∨ j = X + 2) (fun _ _ h => h.elim)).trans (hkn.mono (fun j _ h => .inl h))
                refine wpAnyH_take (i := 11) (v := ?_) rfl (by kernel_rfl) (by kernel_rfl) (by kernel_rfl) (fun _ _ _ h => h) (Or.inl ⟨by rfl, ?_⟩) (by assumption) ?_
                rotate_left
                · intro w hSw
                  try dsimp only at hSw
                  go_simp
                  try with_reducible rfl
                try simp only [Act.put, List.getElem_toArray, List.getElem_cons_zero, List.getElem_cons_succ, List.setIfInBounds_toArray, List.set_cons_zero, List.set_cons_succ]
                refine wpAnyH_ready (rs := [12]) (by kernel_rfl) (by simp) ?_
                refine AllReadyH.cons rfl (fun K hK => ?_) (AllReadyH.nil)
                · have hsk := hk.size
                  have f4 := free_of hz2 4
                  have c4 := cell_of hz2 4 (v := .slice na k nc) rfl
                  go_simp
                  have hk3 := hkm.setCell (p := ⟨X + 2, 4, none⟩) (.inl (.inr rfl)) (.slice na' (k + 1) nc')
                  refine hK.out _ _ ⟨heap_set_other _ _ hHeld.1 (by show X ≠ X + 2; omega), far_cell hHeld.2 (by show rb ≠ X + 2; omega)⟩ (fun hHeld => ?_)
                  clear hK K f4 c4
                  try simp only [Act.put, List.getElem_toArray, List.getElem_cons_zero, List.getElem_cons_succ, List.setIfInBounds_toArray, List.set_cons_zero, List.set_cons_succ]
                  have hkz : Kp (fun j => j = X + 2) y4 (y4.setCell ⟨X + 2, 4, none⟩ (.slice na' (k + 1) nc')) := (Kp.refl (fun j => j = X + 2) _).setCell (p := ⟨X + 2, 4, none⟩) (.inl rfl) _
                  have ho3 := ho2.kp hkz (fun g hg (e : g = X + 2) => by have := (ho2.from hg).1; omega)
                  have hb3 := Owns.base (B' := wr.heap.size) (hb2.kp hkz (fun g hg (e : g = X + 2) => by have := (hb2.from hg).1; omega)) lL
                  replace hz2 := heap_set hz2 4 (.slice na' (k + 1) nc')
                  refine wpAnyH_done (by kernel_rfl) ?_ _
                  go_wp2_with fail
                  obtain ⟨e1, e2, e3, e4⟩ := ansb_step HNL.out hlt HGET.out (by omega) HO.out HCP.out HFR.out ho3 hb3 hne hmv hk3
                  have hnaX : ∀ g, blockOf na = some g → X + 3 ≤ g ∧ g < wr.heap.size := fun g hg => HO.out.from hg
                  go_roundw
                  case rel => exact ⟨k + 1, _, na', nc', by go_num, by omega, e1, hk3.heap H1.out (fun e => e.elim (fun e => by have := (hnaX X e.symm).1; omega) (fun e => by omega)), hk3.heap H2.out (fun e => e.elim (fun e => by have := (hnaX (X + 1) e.symm).1; omega) (fun e => by omega)), hz2, e2, e3, e4, HK.out.andThen hk3 (fun j hj e => e.elim (fun e => by have := (hnaX j e.symm).1; have := HX.out; omega) (fun e => by have := HX.out; omega))⟩
                  case measure => simp [intOf]; omega
    · obtain rfl : k = rl.length := by omega
      clear hlt
      have x5 := cell_of H1.out 5 (v := .slice ra rl.length rc) rfl
      go_upto_region 6 with fail
      clear x5
      go_wp2_with (first | (refine wpList_load_row rfl 47 _ rfl (X + 2) rfl 47 _ (0, 0) _ H3.out Try.underlying47 rfl (by kernel_rfl) ?_) | (refine wpList_store_row rfl 47 _ _ rfl (X + 1) _ rfl rfl 47 _ H2.out (by kernel_rfl) rfl (by simp [Value.oneCell']) ?_))
      have hk7 : Kp (fun j => j = X + 1) wr (wr.setRow (X + 1) #[.int .i64 ai, .int .i64 ae, .int .i64 as_, .int .i64 an, .slice na rl.length nc, .int .i64 al]) := (Kp.refl (fun j => j = X + 1) wr).setRow (Or.inl rfl) _
      refine bodyPost_ret (v := .agg #[.int .i64 ai, .int .i64 ae, .int .i64 as_, .int .i64 an, .slice na rl.length nc, .int .i64 al]) (results_cell_row Try.results22 _ _ (X + 1) 47 _ (0, 0) _ rfl (setRow_heap _ _ _ _ _ _ H2.out) Try.underlying47 rfl (by kernel_rfl)) rfl ⟨na, new, nc, ?_, HNL.out, ?_, ?_, ?_, ?_⟩
      · show Ending.returned (.agg #[.int .i64 ai, .int .i64 ae, .int .i64 as_, .int .i64 an, .slice na rl.length nc, .int .i64 al]) = Ending.returned (.agg #[.int .i64 ai, .int .i64 ae, .int .i64 as_, .int .i64 an, .slice na new.length nc, .int .i64 al])
        rw [HNL.out]
      · have h := HCP.out.kp hk7 (fun r hr g hg e => by have := ((HCP.out.c.row r hr).2 g hg).1; omega)
        exact ⟨⟨h.c.len, h.c.same, fun r hr => ⟨(h.c.row r hr).1, fun g hg => by have := (h.c.row r hr).2 g hg; have := HX.out; exact ⟨by omega, by omega⟩⟩⟩, h.cs⟩
      · exact HO.out.row.kp hk7 (fun g hg e => by have := (HO.out.from hg).1; omega)
      · intro g hg
        have := HO.out.from hg
        have := HX.out
        have := hk7.size
        exact ⟨by omega, by omega⟩
      · exact HK.out.andThen hk7 (fun i hi (e : i = X + 1) => by have := HX.out; omega)
end Go.Proofs.Ytjhefbkigmamfaa
