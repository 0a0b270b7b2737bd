/-
  Done, where an order has ended: walked once. No condition.
-/
import Derived.Test.YtjhefbkigmamfaaDn
namespace Go.Proofs.Ytjhefbkigmamfaa
open Go.ChangeShapes Go.WideShapes Go.ChangeAt Go.RowKit
set_option linter.unusedVariables false
set_option linter.unusedSimpArgs false

/-- The client behind it. -/
def told (v : CV) : CV := { v with state := 0, ord := ⟨0, 0, 0, none, [], 0⟩, ans := ⟨0, 0, 0, 0, none, [], 0, 0⟩ }
set_option maxRecDepth 100000 in
set_option maxHeartbeats 4000000 in
theorem done_yes {w : World} {B : Nat} {R : Nat → Prop} {b : Nat} {v : CV} (k : Client w B R b v) (hs : v.state = 2) : Calls Try.prog 18 #[.pointer (some ⟨b, 0, none⟩)] w fun e w' => e = .returned (.tuple #[.agg v.ord.cells.toArray, .agg v.ans.cells.toArray, .bool true]) ∧ Client w' B R b (told v) ∧ Kp (fun j => j = b) w w' := by
  have hka : Kp (fun _ => False) w ((w.alloc (.cells #[.int .i64 0, .int .i64 0, .int .i64 0, .slice none 0 0] 32)).alloc (.cells #[.int .i64 0, .int .i64 0, .int .i64 0, .int .i64 0, .slice none 0 0, .int .i64 0] 47)) := ((Kp.refl _ _).alloc _).alloc _
  have k1 := k.no hka
  have h1 : ((w.alloc (.cells #[.int .i64 0, .int .i64 0, .int .i64 0, .slice none 0 0] 32)).alloc (.cells #[.int .i64 0, .int .i64 0, .int .i64 0, .int .i64 0, .slice none 0 0, .int .i64 0] 47)).heap[w.heap.size]? = some (.cells #[.int .i64 0, .int .i64 0, .int .i64 0, .slice none 0 0] 32 (0, 0)) := heap_old _ (heap_new w _)
  have h2 : ((w.alloc (.cells #[.int .i64 0, .int .i64 0, .int .i64 0, .slice none 0 0] 32)).alloc (.cells #[.int .i64 0, .int .i64 0, .int .i64 0, .int .i64 0, .slice none 0 0, .int .i64 0] 47)).heap[w.heap.size + 1]? = some (.cells #[.int .i64 0, .int .i64 0, .int .i64 0, .int .i64 0, .slice none 0 0, .int .i64 0] 47 (0, 0)) := by
    have h := heap_new (w.alloc (.cells #[.int .i64 0, .int .i64 0, .int .i64 0, .slice none 0 0] 32)) (.cells #[.int .i64 0, .int .i64 0, .int .i64 0, .int .i64 0, .slice none 0 0, .int .i64 0] 47)
    simpa using h
  have hlt := lt_of_block k.blk
  have hz : w.heap.size + 1 < ((w.alloc (.cells #[.int .i64 0, .int .i64 0, .int .i64 0, .slice none 0 0] 32)).alloc (.cells #[.int .i64 0, .int .i64 0, .int .i64 0, .int .i64 0, .slice none 0 0, .int .i64 0] 47)).heap.size := lt_of_block h2
  have HALL := Lib.hid (show ∀ j, All R b v j → j < w.heap.size from fun j h => (k.all h).2)
  have K1 := Lib.hid k1
  have H1 := Lib.hid h1
  have H2 := Lib.hid h2
  have HK := Lib.hid hka
  have HZ := Lib.hid hz
  have HLT := Lib.hid hlt
  have HS := Lib.hid hs
  clear k k1 h1 h2 hka hs hz hlt
  go_enter Try.func18, Try.ntmps18
  go_upto_region 1 with fail
  generalize ((w.alloc (.cells #[.int .i64 0, .int .i64 0, .int .i64 0, .slice none 0 0] 32)).alloc (.cells #[.int .i64 0, .int .i64 0, .int .i64 0, .int .i64 0, .slice none 0 0, .int .i64 0] 47)) = w1 at K1 H1 H2 HK HZ ⊢
  obtain ⟨X, hX⟩ : ∃ X, X = w.heap.size := ⟨_, rfl⟩
  have HX := Lib.hid hX
  rw [← hX] at H1 H2 HZ HLT ⊢
  clear hX
  have c8 : w1.cell? ⟨b, 8, none⟩ = some (.int .i64 2) := by rw [← HS.out]; exact cell_of K1.out.blk 8 rfl
  have f8 := free_of K1.out.blk 8
  go_upto_region 4 with (first | (go_at_call 27; refine (none_no K1.out).mono ?_; rintro e wq ⟨rfl, rfl⟩))
  have hk2 : Kp (fun j => j = b) wq (wq.setCell ⟨b, 8, none⟩ (.int .i64 0)) := (Kp.refl (fun j => j = b) _).setCell (p := ⟨b, 8, none⟩) (.inl rfl) _
  have k2 : Client (wq.setCell ⟨b, 8, none⟩ (.int .i64 0)) B R b { v with state := 0 } := K1.out.set hk2 _ (heap_set K1.out.blk 8 (.int .i64 0)) ⟨rfl, rfl, rfl, rfl, rfl, rfl, rfl⟩ K1.out.at_ ⟨K1.out.ord, K1.out.ordR, K1.out.ordL⟩ ⟨K1.out.ans, K1.out.ansR, K1.out.rec_⟩
  have K2 := Lib.hid k2
  have HK2 := Lib.hid (show Kp (fun j => j = b) w (wq.setCell ⟨b, 8, none⟩ (.int .i64 0)) from (HK.out.mono (S' := fun j => j = b) (fun _ _ h => h.elim)).trans hk2)
  have HX1 := Lib.hid (hk2.heap H1.out (fun e => by have := HLT.out; omega))
  have HX2 := Lib.hid (hk2.heap H2.out (fun e => by have := HLT.out; omega))
  have HZ2 := Lib.hid (show X + 1 < (wq.setCell ⟨b, 8, none⟩ (.int .i64 0)).heap.size from Nat.lt_of_lt_of_le HZ.out hk2.size)
  clear c8 f8 hk2 k2 K1 H1 H2 HK HZ
  generalize wq.setCell ⟨b, 8, none⟩ (.int .i64 0) = w2 at K2 HK2 HX1 HX2 HZ2 ⊢
  go_cut [5, 6] (fun q5 q6 wr => ∃ P Q, q5 = .pointer (some ⟨P, 0, none⟩) ∧ q6 = .pointer (some ⟨Q, 0, none⟩) ∧ wr.heap[P]? = some (.cells v.ord.cells.toArray 32 (0, 0)) ∧ wr.heap[Q]? = some (.cells v.ans.cells.toArray 47 (0, 0)) ∧ wr.heap[b]? = some (.cells ({ v with state := 0 } : CV).cells 65 (0, 0)) ∧ w2.heap.size ≤ P ∧ w2.heap.size ≤ Q ∧ P ≠ Q ∧ Kp (fun _ => False) w2 wr)
  case first =>
    refine wp_region_held_drew (S := fun w' => w'.heap[b]? = some (.cells ({ v with state := 0 } : CV).cells 65 (0, 0))) (by kernel_rfl) K2.out.blk (fun hHeld => ?_)
    have hB : w2.drew.heap[b]? = some (.cells ({ v with state := 0 } : CV).cells 65 (0, 0)) := hHeld
    have hk : Kp (fun _ => False) w2 w2.drew := (Kp.refl _ _).drew
    clear hHeld
    generalize w2.drew = y0 at hB hk ⊢
    refine wpAnyH_take (i := 0) (v := ?_) rfl (by kernel_rfl) (by kernel_rfl) (by kernel_rfl) (fun _ _ _ h => h) (Or.inl ⟨by rfl, ?_⟩) (by assumption) ?_
    rotate_left
    · intro w hSw
      try dsimp only at hSw
      go_simp
      try with_reducible rfl
    try simp only [Act.put, List.getElem_toArray, List.getElem_cons_zero, List.getElem_cons_succ, List.setIfInBounds_toArray, List.set_cons_zero, List.set_cons_succ]
    refine wpAnyH_take (i := 1) (v := ?_) rfl (by kernel_rfl) (by kernel_rfl) (by kernel_rfl) (fun _ _ _ h => h) (Or.inl ⟨by rfl, ?_⟩) (by assumption) ?_
    rotate_left
    · intro w hSw
      try dsimp only at hSw
      go_simp
      try with_reducible rfl
    try simp only [Act.put, List.getElem_toArray, List.getElem_cons_zero, List.getElem_cons_succ, List.setIfInBounds_toArray, List.set_cons_zero, List.set_cons_succ]
    refine wpAnyH_take (i := 2) (v := ?_) rfl (by kernel_rfl) (by kernel_rfl) (by kernel_rfl) (fun _ _ _ h => h) (Or.inl ⟨by rfl, ?_⟩) (by assumption) ?_
    rotate_left
    · intro w hSw
      try dsimp only at hSw
      go_simp
      try with_reducible rfl
    try simp only [Act.put, List.getElem_toArray, List.getElem_cons_zero, List.getElem_cons_succ, List.setIfInBounds_toArray, List.set_cons_zero, List.set_cons_succ]
    refine wpAnyH_take (i := 3) (v := .agg ([Value.int .i64 v.ord.kind, .int .i64 v.ord.from_, .int .i64 v.ord.most, .slice v.ord.da v.ord.dl.length v.ord.dc] : List Value).toArray) rfl (by kernel_rfl) (by kernel_rfl) (by kernel_rfl) (fun _ _ _ h => h) (yieldsIf_load_mid (by rfl) 32 _ rfl b 9 rfl [Value.int .i64 v.ord.kind, .int .i64 v.ord.from_, .int .i64 v.ord.most, .slice v.ord.da v.ord.dl.length v.ord.dc] _ (fun w hw => World.rangeAt_of_block hw 9 4) Try.underlying32 rfl (by kernel_rfl)) (by assumption) ?_
    try simp only [Act.put, List.getElem_toArray, List.getElem_cons_zero, List.getElem_cons_succ, List.setIfInBounds_toArray, List.set_cons_zero, List.set_cons_succ]
    refine wpAnyH_take (i := 4) (v := ?_) rfl (by kernel_rfl) (by kernel_rfl) (by kernel_rfl) (fun _ _ _ h => h) (Or.inl ⟨by rfl, ?_⟩) (by assumption) ?_
    rotate_left
    · intro w hSw
      try dsimp only at hSw
      go_simp
      try with_reducible rfl
    try simp only [Act.put, List.getElem_toArray, List.getElem_cons_zero, List.getElem_cons_succ, List.setIfInBounds_toArray, List.set_cons_zero, List.set_cons_succ]
    refine wpAnyH_take (i := 5) (v := ?_) rfl (by kernel_rfl) (by kernel_rfl) (by kernel_rfl) (fun _ _ _ h => h) (Or.inl ⟨by rfl, ?_⟩) (by assumption) ?_
    rotate_left
    · intro w hSw
      try dsimp only at hSw
      go_simp
      try with_reducible rfl
    try simp only [Act.put, List.getElem_toArray, List.getElem_cons_zero, List.getElem_cons_succ, List.setIfInBounds_toArray, List.set_cons_zero, List.set_cons_succ]
    refine wpAnyH_take (i := 6) (v := ?_) rfl (by kernel_rfl) (by kernel_rfl) (by kernel_rfl) (fun _ _ _ h => h) (Or.inl ⟨by rfl, ?_⟩) (by assumption) ?_
    rotate_left
    · intro w hSw
      try dsimp only at hSw
      go_simp
      try with_reducible rfl
    try simp only [Act.put, List.getElem_toArray, List.getElem_cons_zero, List.getElem_cons_succ, List.setIfInBounds_toArray, List.set_cons_zero, List.set_cons_succ]
    refine wpAnyH_take (i := 7) (v := .agg ([Value.int .i64 v.ans.id, .int .i64 v.ans.e, .int .i64 v.ans.session, .int .i64 v.ans.number, .slice v.ans.ra v.ans.rl.length v.ans.rc, .int .i64 v.ans.leader] : List Value).toArray) rfl (by kernel_rfl) (by kernel_rfl) (by kernel_rfl) (fun _ _ _ h => h) (yieldsIf_load_mid (by rfl) 47 _ rfl b 13 rfl [Value.int .i64 v.ans.id, .int .i64 v.ans.e, .int .i64 v.ans.session, .int .i64 v.ans.number, .slice v.ans.ra v.ans.rl.length v.ans.rc, .int .i64 v.ans.leader] _ (fun w hw => World.rangeAt_of_block hw 13 6) Try.underlying47 rfl (by kernel_rfl)) (by assumption) ?_
    try simp only [Act.put, List.getElem_toArray, List.getElem_cons_zero, List.getElem_cons_succ, List.setIfInBounds_toArray, List.set_cons_zero, List.set_cons_succ]
    refine wpAnyH_ready (rs := [8, 9]) (by kernel_rfl) (by simp) ?_
    refine AllReadyH.cons rfl (fun K hK => ?_) (AllReadyH.cons rfl (fun K hK => ?_) (AllReadyH.nil))
    · have lb := lt_of_block hB
      go_simp
      refine hK.out _ _ (heap_old _ hB) (fun hHeld => ?_)
      clear hK K
      try simp only [Act.put, List.getElem_toArray, List.getElem_cons_zero, List.getElem_cons_succ, List.setIfInBounds_toArray, List.set_cons_zero, List.set_cons_succ]
      have hkn := hk.alloc (.cells #[.int .i64 0, .int .i64 0, .int .i64 0, .slice none 0 0] 32)
      have hsz := hk.size
      have hP := heap_new y0 (.cells #[.int .i64 0, .int .i64 0, .int .i64 0, .slice none 0 0] 32)
      generalize y0.alloc (.cells #[.int .i64 0, .int .i64 0, .int .i64 0, .slice none 0 0] 32) = y1 at *
      obtain ⟨P, hPe⟩ : ∃ P, P = y0.heap.size := ⟨_, rfl⟩
      rw [← hPe] at hP ⊢
      have lP : w2.heap.size ≤ P := by omega
      have nP : b ≠ P := by omega
      clear hPe hsz lb hB hk
      have hB := hHeld
      have hk := hkn
      clear hkn
      clear hHeld
      refine wpAnyH_ready (rs := [9]) (by kernel_rfl) (by simp) ?_
      refine AllReadyH.cons rfl (fun K hK => ?_) (AllReadyH.nil)
      · have lb := lt_of_block hB
        go_simp
        refine hK.out _ _ (heap_old _ hB) (fun hHeld => ?_)
        clear hK K
        try simp only [Act.put, List.getElem_toArray, List.getElem_cons_zero, List.getElem_cons_succ, List.setIfInBounds_toArray, List.set_cons_zero, List.set_cons_succ]
        have hkn := hk.alloc (.cells #[.int .i64 0, .int .i64 0, .int .i64 0, .int .i64 0, .slice none 0 0, .int .i64 0] 47)
        have hsz := hk.size
        have hQ := heap_new y1 (.cells #[.int .i64 0, .int .i64 0, .int .i64 0, .int .i64 0, .slice none 0 0, .int .i64 0] 47)
        have l := lt_of_block hP
        replace hP := heap_old (.cells #[.int .i64 0, .int .i64 0, .int .i64 0, .int .i64 0, .slice none 0 0, .int .i64 0] 47) hP
        generalize y1.alloc (.cells #[.int .i64 0, .int .i64 0, .int .i64 0, .int .i64 0, .slice none 0 0, .int .i64 0] 47) = y2 at *
        obtain ⟨Q, hQe⟩ : ∃ Q, Q = y1.heap.size := ⟨_, rfl⟩
        rw [← hQe] at hQ ⊢
        have lQ : w2.heap.size ≤ Q := by omega
        have nQ : b ≠ Q := by omega
        have PQ : P ≠ Q := by omega
        clear l
        clear hQe hsz lb hB hk
        have hB := hHeld
        have hk := hkn
        clear hkn
        clear hHeld
        refine wpAnyH_ready (rs := [10]) (by kernel_rfl) (by simp) ?_
        refine AllReadyH.cons rfl (fun K hK => ?_) (AllReadyH.nil)
        · have lb := lt_of_block hB
          refine wp_store_row 32 _ _ rfl P ([Value.int .i64 v.ord.kind, .int .i64 v.ord.from_, .int .i64 v.ord.most, .slice v.ord.da v.ord.dl.length v.ord.dc] : List Value).toArray rfl rfl 32 _ hP (by kernel_rfl) rfl (by simp [Value.oneCell']) ?_
          refine hK.out _ _ ((setRow_other _ _ _ _ nP).trans hB) (fun hHeld => ?_)
          clear hK K
          try simp only [Act.put, List.getElem_toArray, List.getElem_cons_zero, List.getElem_cons_succ, List.setIfInBounds_toArray, List.set_cons_zero, List.set_cons_succ]
          have hkn := hk.setRow (g := P) (.inr lP) ([Value.int .i64 v.ord.kind, .int .i64 v.ord.from_, .int .i64 v.ord.most, .slice v.ord.da v.ord.dl.length v.ord.dc] : List Value).toArray
          replace hP := setRow_heap _ _ _ ([Value.int .i64 v.ord.kind, .int .i64 v.ord.from_, .int .i64 v.ord.most, .slice v.ord.da v.ord.dl.length v.ord.dc] : List Value).toArray _ _ hP
          replace hQ := (setRow_other y2 P Q ([Value.int .i64 v.ord.kind, .int .i64 v.ord.from_, .int .i64 v.ord.most, .slice v.ord.da v.ord.dl.length v.ord.dc] : List Value).toArray (Ne.symm PQ)).trans hQ
          generalize y2.setRow P ([Value.int .i64 v.ord.kind, .int .i64 v.ord.from_, .int .i64 v.ord.most, .slice v.ord.da v.ord.dl.length v.ord.dc] : List Value).toArray = y3 at *
          clear lb hB hk
          have hB := hHeld
          have hk := hkn
          clear hkn
          clear hHeld
          refine wpAnyH_ready (rs := [11]) (by kernel_rfl) (by simp) ?_
          refine AllReadyH.cons rfl (fun K hK => ?_) (AllReadyH.nil)
          · have lb := lt_of_block hB
            refine wp_store_row 47 _ _ rfl Q ([Value.int .i64 v.ans.id, .int .i64 v.ans.e, .int .i64 v.ans.session, .int .i64 v.ans.number, .slice v.ans.ra v.ans.rl.length v.ans.rc, .int .i64 v.ans.leader] : List Value).toArray rfl rfl 47 _ hQ (by kernel_rfl) rfl (by simp [Value.oneCell']) ?_
            refine hK.out _ _ ((setRow_other _ _ _ _ nQ).trans hB) (fun hHeld => ?_)
            clear hK K
            try simp only [Act.put, List.getElem_toArray, List.getElem_cons_zero, List.getElem_cons_succ, List.setIfInBounds_toArray, List.set_cons_zero, List.set_cons_succ]
            have hkn := hk.setRow (g := Q) (.inr lQ) ([Value.int .i64 v.ans.id, .int .i64 v.ans.e, .int .i64 v.ans.session, .int .i64 v.ans.number, .slice v.ans.ra v.ans.rl.length v.ans.rc, .int .i64 v.ans.leader] : List Value).toArray
            replace hQ := setRow_heap _ _ _ ([Value.int .i64 v.ans.id, .int .i64 v.ans.e, .int .i64 v.ans.session, .int .i64 v.ans.number, .slice v.ans.ra v.ans.rl.length v.ans.rc, .int .i64 v.ans.leader] : List Value).toArray _ _ hQ
            replace hP := (setRow_other y3 Q P ([Value.int .i64 v.ans.id, .int .i64 v.ans.e, .int .i64 v.ans.session, .int .i64 v.ans.number, .slice v.ans.ra v.ans.rl.length v.ans.rc, .int .i64 v.ans.leader] : List Value).toArray PQ).trans hP
            generalize y3.setRow Q ([Value.int .i64 v.ans.id, .int .i64 v.ans.e, .int .i64 v.ans.session, .int .i64 v.ans.number, .slice v.ans.ra v.ans.rl.length v.ans.rc, .int .i64 v.ans.leader] : List Value).toArray = y4 at *
            clear lb hB hk
            have hB := hHeld
            have hk := hkn
            clear hkn
            clear hHeld
            refine wpAnyH_done (by kernel_rfl) ?_ _
            go_wp2
            go_meet
            case rel => exact ⟨P, Q, rfl, rfl, hP, hQ, hB, lP, lQ, PQ, hk⟩
    · have lb := lt_of_block hB
      go_simp
      refine hK.out _ _ (heap_old _ hB) (fun hHeld => ?_)
      clear hK K
      try simp only [Act.put, List.getElem_toArray, List.getElem_cons_zero, List.getElem_cons_succ, List.setIfInBounds_toArray, List.set_cons_zero, List.set_cons_succ]
      have hkn := hk.alloc (.cells #[.int .i64 0, .int .i64 0, .int .i64 0, .int .i64 0, .slice none 0 0, .int .i64 0] 47)
      have hsz := hk.size
      have hQ := heap_new y0 (.cells #[.int .i64 0, .int .i64 0, .int .i64 0, .int .i64 0, .slice none 0 0, .int .i64 0] 47)
      generalize y0.alloc (.cells #[.int .i64 0, .int .i64 0, .int .i64 0, .int .i64 0, .slice none 0 0, .int .i64 0] 47) = y1 at *
      obtain ⟨Q, hQe⟩ : ∃ Q, Q = y0.heap.size := ⟨_, rfl⟩
      rw [← hQe] at hQ ⊢
      have lQ : w2.heap.size ≤ Q := by omega
      have nQ : b ≠ Q := by omega
      clear hQe hsz lb hB hk
      have hB := hHeld
      have hk := hkn
      clear hkn
      clear hHeld
      refine wpAnyH_ready (rs := [8]) (by kernel_rfl) (by simp) ?_
      refine AllReadyH.cons rfl (fun K hK => ?_) (AllReadyH.nil)
      · have lb := lt_of_block hB
        go_simp
        refine hK.out _ _ (heap_old _ hB) (fun hHeld => ?_)
        clear hK K
        try simp only [Act.put, List.getElem_toArray, List.getElem_cons_zero, List.getElem_cons_succ, List.setIfInBounds_toArray, List.set_cons_zero, List.set_cons_succ]
        have hkn := hk.alloc (.cells #[.int .i64 0, .int .i64 0, .int .i64 0, .slice none 0 0] 32)
        have hsz := hk.size
        have hP := heap_new y1 (.cells #[.int .i64 0, .int .i64 0, .int .i64 0, .slice none 0 0] 32)
        have l := lt_of_block hQ
        replace hQ := heap_old (.cells #[.int .i64 0, .int .i64 0, .int .i64 0, .slice none 0 0] 32) hQ
        generalize y1.alloc (.cells #[.int .i64 0, .int .i64 0, .int .i64 0, .slice none 0 0] 32) = y2 at *
        obtain ⟨P, hPe⟩ : ∃ P, P = y1.heap.size := ⟨_, rfl⟩
        rw [← hPe] at hP ⊢
        have lP : w2.heap.size ≤ P := by omega
        have nP : b ≠ P := by omega
        have PQ : P ≠ Q := by omega
        clear l
        clear hPe hsz lb hB hk
        have hB := hHeld
        have hk := hkn
        clear hkn
        clear hHeld
        refine wpAnyH_ready (rs := [10]) (by kernel_rfl) (by simp) ?_
        refine AllReadyH.cons rfl (fun K hK => ?_) (AllReadyH.nil)
        · have lb := lt_of_block hB
          refine wp_store_row 32 _ _ rfl P ([Value.int .i64 v.ord.kind, .int .i64 v.ord.from_, .int .i64 v.ord.most, .slice v.ord.da v.ord.dl.length v.ord.dc] : List Value).toArray rfl rfl 32 _ hP (by kernel_rfl) rfl (by simp [Value.oneCell']) ?_
          refine hK.out _ _ ((setRow_other _ _ _ _ nP).trans hB) (fun hHeld => ?_)
          clear hK K
          try simp only [Act.put, List.getElem_toArray, List.getElem_cons_zero, List.getElem_cons_succ, List.setIfInBounds_toArray, List.set_cons_zero, List.set_cons_succ]
          have hkn := hk.setRow (g := P) (.inr lP) ([Value.int .i64 v.ord.kind, .int .i64 v.ord.from_, .int .i64 v.ord.most, .slice v.ord.da v.ord.dl.length v.ord.dc] : List Value).toArray
          replace hP := setRow_heap _ _ _ ([Value.int .i64 v.ord.kind, .int .i64 v.ord.from_, .int .i64 v.ord.most, .slice v.ord.da v.ord.dl.length v.ord.dc] : List Value).toArray _ _ hP
          replace hQ := (setRow_other y2 P Q ([Value.int .i64 v.ord.kind, .int .i64 v.ord.from_, .int .i64 v.ord.most, .slice v.ord.da v.ord.dl.length v.ord.dc] : List Value).toArray (Ne.symm PQ)).trans hQ
          generalize y2.setRow P ([Value.int .i64 v.ord.kind, .int .i64 v.ord.from_, .int .i64 v.ord.most, .slice v.ord.da v.ord.dl.length v.ord.dc] : List Value).toArray = y3 at *
          clear lb hB hk
          have hB := hHeld
          have hk := hkn
          clear hkn
          clear hHeld
          refine wpAnyH_ready (rs := [11]) (by kernel_rfl) (by simp) ?_
          refine AllReadyH.cons rfl (fun K hK => ?_) (AllReadyH.nil)
          · have lb := lt_of_block hB
            refine wp_store_row 47 _ _ rfl Q ([Value.int .i64 v.ans.id, .int .i64 v.ans.e, .int .i64 v.ans.session, .int .i64 v.ans.number, .slice v.ans.ra v.ans.rl.length v.ans.rc, .int .i64 v.ans.leader] : List Value).toArray rfl rfl 47 _ hQ (by kernel_rfl) rfl (by simp [Value.oneCell']) ?_
            refine hK.out _ _ ((setRow_other _ _ _ _ nQ).trans hB) (fun hHeld => ?_)
            clear hK K
            try simp only [Act.put, List.getElem_toArray, List.getElem_cons_zero, List.getElem_cons_succ, List.setIfInBounds_toArray, List.set_cons_zero, List.set_cons_succ]
            have hkn := hk.setRow (g := Q) (.inr lQ) ([Value.int .i64 v.ans.id, .int .i64 v.ans.e, .int .i64 v.ans.session, .int .i64 v.ans.number, .slice v.ans.ra v.ans.rl.length v.ans.rc, .int .i64 v.ans.leader] : List Value).toArray
            replace hQ := setRow_heap _ _ _ ([Value.int .i64 v.ans.id, .int .i64 v.ans.e, .int .i64 v.ans.session, .int .i64 v.ans.number, .slice v.ans.ra v.ans.rl.length v.ans.rc, .int .i64 v.ans.leader] : List Value).toArray _ _ hQ
            replace hP := (setRow_other y3 Q P ([Value.int .i64 v.ans.id, .int .i64 v.ans.e, .int .i64 v.ans.session, .int .i64 v.ans.number, .slice v.ans.ra v.ans.rl.length v.ans.rc, .int .i64 v.ans.leader] : List Value).toArray PQ).trans hP
            generalize y3.setRow Q ([Value.int .i64 v.ans.id, .int .i64 v.ans.e, .int .i64 v.ans.session, .int .i64 v.ans.number, .slice v.ans.ra v.ans.rl.length v.ans.rc, .int .i64 v.ans.leader] : List Value).toArray = y4 at *
            clear lb hB hk
            have hB := hHeld
            have hk := hkn
            clear hkn
            clear hHeld
            refine wpAnyH_done (by kernel_rfl) ?_ _
            go_wp2
            go_meet
            case rel => exact ⟨P, Q, rfl, rfl, hP, hQ, hB, lP, lQ, PQ, hk⟩
  case rest =>
    obtain ⟨P, Q, rfl, rfl, hP, hQ, hB, lP, lQ, PQ, hk⟩ := hcut
    have c9 := cell_of hB 9 (v := .int .i64 v.ord.kind) rfl
    have f9 := free_of hB 9
    have c10 := cell_of hB 10 (v := .int .i64 v.ord.from_) rfl
    have f10 := free_of hB 10
    have c11 := cell_of hB 11 (v := .int .i64 v.ord.most) rfl
    have f11 := free_of hB 11
    have c12 := cell_of hB 12 (v := .slice v.ord.da v.ord.dl.length v.ord.dc) rfl
    have f12 := free_of hB 12
    have c13 := cell_of hB 13 (v := .int .i64 v.ans.id) rfl
    have f13 := free_of hB 13
    have c14 := cell_of hB 14 (v := .int .i64 v.ans.e) rfl
    have f14 := free_of hB 14
    have c15 := cell_of hB 15 (v := .int .i64 v.ans.session) rfl
    have f15 := free_of hB 15
    have c16 := cell_of hB 16 (v := .int .i64 v.ans.number) rfl
    have f16 := free_of hB 16
    have c17 := cell_of hB 17 (v := .slice v.ans.ra v.ans.rl.length v.ans.rc) rfl
    have f17 := free_of hB 17
    have c18 := cell_of hB 18 (v := .int .i64 v.ans.leader) rfl
    have f18 := free_of hB 18
    have HP := Lib.hid hP
    have HQ := Lib.hid hQ
    have HB := Lib.hid hB
    have LP := Lib.hid lP
    have LQ := Lib.hid lQ
    have HPQ := Lib.hid PQ
    have HKC := Lib.hid hk
    clear hP hQ hB lP lQ PQ hk
    go_upto_region 6 with fail
    have hk3 : Kp (fun j => j = b) wc ((((((((((wc.setCell ⟨b, 9, none⟩ (.int .i64 0)).setCell ⟨b, 10, none⟩ (.int .i64 0)).setCell ⟨b, 11, none⟩ (.int .i64 0)).setCell ⟨b, 12, none⟩ (.slice none 0 0)).setCell ⟨b, 13, none⟩ (.int .i64 0)).setCell ⟨b, 14, none⟩ (.int .i64 0)).setCell ⟨b, 15, none⟩ (.int .i64 0)).setCell ⟨b, 16, none⟩ (.int .i64 0)).setCell ⟨b, 17, none⟩ (.slice none 0 0)).setCell ⟨b, 18, none⟩ (.int .i64 0)) := (((((((((((Kp.refl (fun j => j = b) wc).setCell (p := ⟨b, 9, none⟩) (.inl rfl) _).setCell (p := ⟨b, 10, none⟩) (.inl rfl) _).setCell (p := ⟨b, 11, none⟩) (.inl rfl) _).setCell (p := ⟨b, 12, none⟩) (.inl rfl) _).setCell (p := ⟨b, 13, none⟩) (.inl rfl) _).setCell (p := ⟨b, 14, none⟩) (.inl rfl) _).setCell (p := ⟨b, 15, none⟩) (.inl rfl) _).setCell (p := ⟨b, 16, none⟩) (.inl rfl) _).setCell (p := ⟨b, 17, none⟩) (.inl rfl) _).setCell (p := ⟨b, 18, none⟩) (.inl rfl) _)
    have hb3a : ((((wc.setCell ⟨b, 9, none⟩ (.int .i64 0)).setCell ⟨b, 10, none⟩ (.int .i64 0)).setCell ⟨b, 11, none⟩ (.int .i64 0)).setCell ⟨b, 12, none⟩ (.slice none 0 0)).heap[b]? = some (.cells ({ v with state := 0, ord := ⟨0, 0, 0, none, [], 0⟩ } : CV).cells 65 (0, 0)) := (heap_set (heap_set (heap_set (heap_set HB.out 9 (.int .i64 0)) 10 (.int .i64 0)) 11 (.int .i64 0)) 12 (.slice none 0 0))
    have hb3b : ((((((((wc.setCell ⟨b, 9, none⟩ (.int .i64 0)).setCell ⟨b, 10, none⟩ (.int .i64 0)).setCell ⟨b, 11, none⟩ (.int .i64 0)).setCell ⟨b, 12, none⟩ (.slice none 0 0)).setCell ⟨b, 13, none⟩ (.int .i64 0)).setCell ⟨b, 14, none⟩ (.int .i64 0)).setCell ⟨b, 15, none⟩ (.int .i64 0)).setCell ⟨b, 16, none⟩ (.int .i64 0)).heap[b]? = some (.cells ({ v with state := 0, ord := ⟨0, 0, 0, none, [], 0⟩, ans := ⟨0, 0, 0, 0, v.ans.ra, v.ans.rl, v.ans.rc, v.ans.leader⟩ } : CV).cells 65 (0, 0)) := (heap_set (heap_set (heap_set (heap_set hb3a 13 (.int .i64 0)) 14 (.int .i64 0)) 15 (.int .i64 0)) 16 (.int .i64 0))
    have hb3 : ((((((((((wc.setCell ⟨b, 9, none⟩ (.int .i64 0)).setCell ⟨b, 10, none⟩ (.int .i64 0)).setCell ⟨b, 11, none⟩ (.int .i64 0)).setCell ⟨b, 12, none⟩ (.slice none 0 0)).setCell ⟨b, 13, none⟩ (.int .i64 0)).setCell ⟨b, 14, none⟩ (.int .i64 0)).setCell ⟨b, 15, none⟩ (.int .i64 0)).setCell ⟨b, 16, none⟩ (.int .i64 0)).setCell ⟨b, 17, none⟩ (.slice none 0 0)).setCell ⟨b, 18, none⟩ (.int .i64 0)).heap[b]? = some (.cells (told v).cells 65 (0, 0)) := (heap_set (heap_set hb3b 17 (.slice none 0 0)) 18 (.int .i64 0))
    clear hb3a hb3b
    generalize ((((((((((wc.setCell ⟨b, 9, none⟩ (.int .i64 0)).setCell ⟨b, 10, none⟩ (.int .i64 0)).setCell ⟨b, 11, none⟩ (.int .i64 0)).setCell ⟨b, 12, none⟩ (.slice none 0 0)).setCell ⟨b, 13, none⟩ (.int .i64 0)).setCell ⟨b, 14, none⟩ (.int .i64 0)).setCell ⟨b, 15, none⟩ (.int .i64 0)).setCell ⟨b, 16, none⟩ (.int .i64 0)).setCell ⟨b, 17, none⟩ (.slice none 0 0)).setCell ⟨b, 18, none⟩ (.int .i64 0)) = w3 at hk3 hb3 ⊢
    have hbw := lt_of_block K2.out.blk
    have hx2 := HZ2.out
    have kc := K2.out.no HKC.out
    have k3 := kc.set hk3 (told v) hb3 ⟨rfl, rfl, rfl, rfl, rfl, rfl, rfl⟩ kc.at_ ⟨Row.nil _ _, (fun g hg => by cases hg), Nat.zero_le _⟩ ⟨Row.nil _ _, (fun g hg => by cases hg), (fun r hr => by cases hr)⟩
    have hPb : P ≠ b := by have := LP.out; omega
    have hQb : Q ≠ b := by have := LQ.out; omega
    have hP3 := hk3.heap HP.out hPb
    have hQ3 := hk3.heap HQ.out hQb
    have hX3 := hk3.heap (HKC.out.heap HX1.out (fun h => h)) (fun e => by have := HLT.out; omega)
    have hY3 := hk3.heap (HKC.out.heap HX2.out (fun h => h)) (fun e => by have := HLT.out; omega)
    have hPX : P ≠ X := by have := LP.out; omega
    have hQX : Q ≠ X := by have := LQ.out; omega
    have hPY : P ≠ X + 1 := by have := LP.out; omega
    have hQY : Q ≠ X + 1 := by have := LQ.out; omega
    have hkw : Kp (fun j => j = b) w w3 := (HK2.out.trans (HKC.out.mono (fun _ _ h => h.elim))).trans hk3
    have K3 := Lib.hid k3
    have HKW := Lib.hid hkw
    clear c9 c10 c11 c12 c13 c14 c15 c16 c17 c18 f9 f10 f11 f12 f13 f14 f15 f16 f17 f18 hk3 hb3 kc k3 hkw HP HQ HB HX1 HX2 K2 HK2 HKC
    refine wp_region_held_drew (S := fun w' => w'.heap[P]? = some (.cells v.ord.cells.toArray 32 (0, 0)) ∧ w'.heap[Q]? = some (.cells v.ans.cells.toArray 47 (0, 0))) (by kernel_rfl) ⟨hP3, hQ3⟩ (fun hHeld => ?_)
    have hXd : w3.drew.heap[X]? = _ := hX3
    have hYd : w3.drew.heap[X + 1]? = _ := hY3
    have HKD := Lib.hid (HKW.out.drew)
    have KD := Lib.hid (K3.out.no ((Kp.refl _ _).drew))
    clear hX3 hY3 hP3 hQ3
    generalize w3.drew = y0 at hHeld hXd hYd HKD KD ⊢
    refine wpAnyH_take (i := 0) (v := .agg ([Value.int .i64 v.ord.kind, .int .i64 v.ord.from_, .int .i64 v.ord.most, .slice v.ord.da v.ord.dl.length v.ord.dc] : List Value).toArray) rfl (by kernel_rfl) (by kernel_rfl) (by kernel_rfl) (fun _ _ _ h => h) (yieldsIf_load_mid (by rfl) 32 _ rfl P 0 rfl [Value.int .i64 v.ord.kind, .int .i64 v.ord.from_, .int .i64 v.ord.most, .slice v.ord.da v.ord.dl.length v.ord.dc] _ (fun w hw => World.rangeAt_of_block hw.1 0 4) Try.underlying32 rfl (by kernel_rfl)) (by assumption) ?_
    try simp only [Act.put, List.getElem_toArray, List.getElem_cons_zero, List.getElem_cons_succ, List.setIfInBounds_toArray, List.set_cons_zero, List.set_cons_succ]
    refine wpAnyH_take (i := 1) (v := .agg ([Value.int .i64 v.ans.id, .int .i64 v.ans.e, .int .i64 v.ans.session, .int .i64 v.ans.number, .slice v.ans.ra v.ans.rl.length v.ans.rc, .int .i64 v.ans.leader] : List Value).toArray) rfl (by kernel_rfl) (by kernel_rfl) (by kernel_rfl) (fun _ _ _ h => h) (yieldsIf_load_mid (by rfl) 47 _ rfl Q 0 rfl [Value.int .i64 v.ans.id, .int .i64 v.ans.e, .int .i64 v.ans.session, .int .i64 v.ans.number, .slice v.ans.ra v.ans.rl.length v.ans.rc, .int .i64 v.ans.leader] _ (fun w hw => World.rangeAt_of_block hw.2 0 6) Try.underlying47 rfl (by kernel_rfl)) (by assumption) ?_
    try simp only [Act.put, List.getElem_toArray, List.getElem_cons_zero, List.getElem_cons_succ, List.setIfInBounds_toArray, List.set_cons_zero, List.set_cons_succ]
    refine wpAnyH_ready (rs := [2]) (by kernel_rfl) (by simp) ?_
    refine AllReadyH.cons rfl (fun K hK => ?_) AllReadyH.nil
    refine wp_store_row 32 _ _ rfl X ([Value.int .i64 v.ord.kind, .int .i64 v.ord.from_, .int .i64 v.ord.most, .slice v.ord.da v.ord.dl.length v.ord.dc] : List Value).toArray rfl rfl 32 _ hXd (by kernel_rfl) rfl (by simp [Value.oneCell']) ?_
    refine hK.out _ _ ⟨(setRow_other _ _ _ _ hPX).trans hHeld.1, (setRow_other _ _ _ _ hQX).trans hHeld.2⟩ (fun hHeld2 => ?_)
    clear hK K
    try simp only [Act.put, List.getElem_toArray, List.getElem_cons_zero, List.getElem_cons_succ, List.setIfInBounds_toArray, List.set_cons_zero, List.set_cons_succ]
    refine wpAnyH_ready (rs := [3]) (by kernel_rfl) (by simp) ?_
    refine AllReadyH.cons rfl (fun K hK => ?_) AllReadyH.nil
    have hYe := (setRow_other y0 X (X + 1) ([Value.int .i64 v.ord.kind, .int .i64 v.ord.from_, .int .i64 v.ord.most, .slice v.ord.da v.ord.dl.length v.ord.dc] : List Value).toArray (by omega)).trans hYd
    refine wp_store_row 47 _ _ rfl (X + 1) ([Value.int .i64 v.ans.id, .int .i64 v.ans.e, .int .i64 v.ans.session, .int .i64 v.ans.number, .slice v.ans.ra v.ans.rl.length v.ans.rc, .int .i64 v.ans.leader] : List Value).toArray rfl rfl 47 _ hYe (by kernel_rfl) rfl (by simp [Value.oneCell']) ?_
    refine hK.out _ _ ⟨(setRow_other _ _ _ _ hPY).trans hHeld2.1, (setRow_other _ _ _ _ hQY).trans hHeld2.2⟩ (fun hHeld3 => ?_)
    clear hK K
    try simp only [Act.put, List.getElem_toArray, List.getElem_cons_zero, List.getElem_cons_succ, List.setIfInBounds_toArray, List.set_cons_zero, List.set_cons_succ]
    have hXf := (setRow_other (y0.setRow X ([Value.int .i64 v.ord.kind, .int .i64 v.ord.from_, .int .i64 v.ord.most, .slice v.ord.da v.ord.dl.length v.ord.dc] : List Value).toArray) (X + 1) X ([Value.int .i64 v.ans.id, .int .i64 v.ans.e, .int .i64 v.ans.session, .int .i64 v.ans.number, .slice v.ans.ra v.ans.rl.length v.ans.rc, .int .i64 v.ans.leader] : List Value).toArray (by omega)).trans (setRow_heap _ _ _ ([Value.int .i64 v.ord.kind, .int .i64 v.ord.from_, .int .i64 v.ord.most, .slice v.ord.da v.ord.dl.length v.ord.dc] : List Value).toArray _ _ hXd)
    have hYf := setRow_heap _ _ _ ([Value.int .i64 v.ans.id, .int .i64 v.ans.e, .int .i64 v.ans.session, .int .i64 v.ans.number, .slice v.ans.ra v.ans.rl.length v.ans.rc, .int .i64 v.ans.leader] : List Value).toArray _ _ hYe
    refine wpAnyH_take (i := 4) (v := .bool true) rfl (by kernel_rfl) (by kernel_rfl) (by kernel_rfl) (fun _ _ _ h => h) (Or.inl ⟨by rfl, ?_⟩) (by assumption) ?_
    · intro w hSw
      go_simp
      try with_reducible rfl
    try simp only [Act.put, List.getElem_toArray, List.getElem_cons_zero, List.getElem_cons_succ, List.setIfInBounds_toArray, List.set_cons_zero, List.set_cons_succ]
    refine wpAnyH_done (by kernel_rfl) ?_ _
    go_wp2
    refine bodyPost_ret (res18 rfl rfl rfl hXf hYf rfl rfl) rfl ⟨rfl, ?_, ?_⟩
    · exact KD.out.kp (S := fun j => X ≤ j) (((Kp.refl _ _).setRow (.inl (Nat.le_refl _)) _).setRow (.inl (by omega)) _) (fun j hj e => by have := HALL.out j hj; have := HX.out; omega)
    · exact (HKD.out.setRow (.inr (by have := HX.out; omega)) _).setRow (.inr (by have := HX.out; omega)) _
end Go.Proofs.Ytjhefbkigmamfaa
