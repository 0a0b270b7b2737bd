/-
  step, walked once: both agree. Where the counts are few.
-/
import Derived.Test.YtjhefbkigmamfaaMr
import Derived.Deep.CutBlock
import Derived.Deep.DeepCutAuto
namespace Go.Proofs.Ytjhefbkigmamfaa
open Go.ChangeShapes Go.WideShapes Go.ChangeAt Go.RowKit
set_option linter.unusedVariables false
set_option linter.unusedSimpArgs false

/-- A call of the script whose lists lie in blocks below B. -/
structure OpE.LowIn (w : World) (B : Nat) (e : OpE) : Prop where
  d : Low w B e.o.da (bytes e.o.dl)
  r : Low w B e.a.ra (e.a.rl.map RecV.val)
  i : ∀ q ∈ e.a.rl, Low w B q.a (bytes q.d)
theorem num_dr (w : World) (e : Int) : Calls Try.prog 10 #[.int .i64 e] w fun r w' => r = .returned (.int .i64 e) ∧ w = w' := Calls.mono (num_any w e) fun _ _ ⟨h1, h2⟩ => ⟨h1, h2.symm⟩
set_option maxRecDepth 100000 in
set_option maxHeartbeats 8000000 in
theorem step_any {w : World} {B : Nat} {N : Nat → Prop} {b rb T : Nat} (h : PW w B N b rb T) (hN : ∀ j, N j → j < w.heap.size) (hT : T ≤ 1400000000000) (x : OpE) (hI : x.LowIn w B) (hS : x.Sz) :
    Calls Try.prog 20 #[.pointer (some ⟨b, 0, none⟩), .pointer (some ⟨rb, 0, none⟩), .agg x.cells.toArray] w fun e w' => e = .returned (.bool true) ∧ PW w' B N b rb (T + 1) ∧ Kp (fun j => B ≤ j ∧ ¬ N j) w w' := by
  obtain ⟨kind, ⟨ok, of, om, da, dl, dc⟩, ⟨ai, ae, as_, an, ra, rl, rc, al⟩⟩ := x
  unfold OpE.cells
  dsimp only
  have hka := (Kp.refl (fun _ => False) w).alloc (.cells #[.int .i64 kind, .int .i64 ok, .int .i64 of, .int .i64 om, .slice da dl.length dc, .int .i64 ai, .int .i64 ae, .int .i64 as_, .int .i64 an, .int .i64 al, .slice ra rl.length rc] 58)
  have hX := heap_new w (.cells #[.int .i64 kind, .int .i64 ok, .int .i64 of, .int .i64 om, .slice da dl.length dc, .int .i64 ai, .int .i64 ae, .int .i64 as_, .int .i64 an, .int .i64 al, .slice ra rl.length rc] 58)
  have HP := Lib.hid ((h.other (N' := fun j => N j ∨ j = w.heap.size) (fun j h => h.imp_right (fun e => Nat.le_of_eq e.symm))).no hka)
  have HI := Lib.hid hI
  have HSZ := Lib.hid hS
  have HX := Lib.hid hX
  have HKA := Lib.hid hka
  have HNN := Lib.hid hN
  have HL := Lib.hid h.lt
  have hBw : B ≤ w.heap.size := by have := h.lt; omega
  clear h hN hI hS hX hka
  go_enter Try.func20, Try.ntmps20
  go_upto_block 0 with fail
  generalize w.alloc (.cells #[.int .i64 kind, .int .i64 ok, .int .i64 of, .int .i64 om, .slice da dl.length dc, .int .i64 ai, .int .i64 ae, .int .i64 as_, .int .i64 an, .int .i64 al, .slice ra rl.length rc] 58) = w1 at HP HX HKA ⊢
  obtain ⟨X, hXe⟩ : ∃ X, X = w.heap.size := ⟨_, rfl⟩
  rw [← hXe] at HP HX ⊢
  have HXE := Lib.hid hXe
  have HN1 := Lib.hid (show ∀ j, N j ∨ j = X → j < w1.heap.size from fun j h => h.elim (fun e => Nat.lt_of_lt_of_le (HNN.out j e) HKA.out.size) (fun e => by rw [e]; exact lt_of_block HX.out))
  clear hXe
  go_cut [7] (fun q wx => q = .bool true ∧ PW wx B N b rb (T + 1) ∧ Kp (fun j => B ≤ j ∧ ¬ N j) w wx)
  case first =>
    by_cases h0 : kind = 0
    · subst h0
      have x1 := cell_of HX.out 1 (v := .int .i64 ok) rfl
      have x2 := cell_of HX.out 2 (v := .int .i64 of) rfl
      have x3 := cell_of HX.out 3 (v := .int .i64 om) rfl
      have x4 := cell_of HX.out 4 (v := .slice da dl.length dc) rfl
      have HD1 := Lib.hid (show Low w1 B da (bytes dl) from HI.out.d.kp HKA.out (fun _ h => h.elim))
      have HDM := Lib.hid (show dl.length ≤ 140737488355328 from by have := HSZ.out.d; dsimp only at this; omega)
      go_wp2_with fail
      refine (order_any ok of om da dl dc HD1.out.row HDM.out).mono ?_
      rintro e w2 ⟨na, nc, rfl, ho2, hk2⟩
      have hka3 := (Kp.refl (fun _ => False) w2).alloc (.cells #[.int .i64 ok, .int .i64 of, .int .i64 om, .slice na dl.length nc] 32)
      have hY := heap_new w2 (.cells #[.int .i64 ok, .int .i64 of, .int .i64 om, .slice na dl.length nc] 32)
      have hk13 := hk2.trans hka3
      have hx3 := hk13.heap HX.out (fun h => h)
      have ho3 := ho2.kp hka3 (fun _ _ h => h)
      have hs12 := hk2.size
      have HNA := Lib.hid (show ∀ g, blockOf na = some g → w1.heap.size ≤ g ∧ g < w2.heap.size from fun g hg => ho2.from hg)
      have HP3 := Lib.hid (((HP.out.other (N' := fun j => (N j ∨ j = X) ∨ w1.heap.size ≤ j) (fun j h => h)).no hk13).other (N' := fun j => N j ∨ j = X ∨ j = w2.heap.size ∨ blockOf na = some j) (fun j h => .inl (by
        rcases h with e | e | e | e
        · exact .inl (.inl e)
        · exact .inl (.inr e)
        · exact .inr (by omega)
        · exact .inr (HNA.out j e).1)))
      have HK3 := Lib.hid ((HKA.out.trans hk13).mono (S' := fun j => B ≤ j ∧ ¬ N j) (fun _ _ h => h.elim))
      have HD3 := Lib.hid (HD1.out.kp hk13 (fun _ h => h.elim))
      have HX3 := Lib.hid hx3
      have HO3 := Lib.hid ho3
      have HY := Lib.hid hY
      have hX1 : X < w1.heap.size := lt_of_block HX.out
      clear x1 x2 x3 x4 ho2 hk2 hka3 hY hk13 hx3 ho3
      go_upto_region 5 with fail
      generalize w2.alloc (.cells #[.int .i64 ok, .int .i64 of, .int .i64 om, .slice na dl.length nc] 32) = w3 at HP3 HK3 HD3 HX3 HO3 HY ⊢
      obtain ⟨Y, hYe⟩ : ∃ Y, Y = w2.heap.size := ⟨_, rfl⟩
      rw [← hYe] at HP3 HY HNA ⊢
      have hY1 : X < Y := by omega
      have hW1 : w1.heap.size ≤ Y := by omega
      have HN3 := Lib.hid (show ∀ j, N j ∨ j = X ∨ j = Y ∨ blockOf na = some j → j < w3.heap.size from fun j h => by
        have hy := lt_of_block HY.out
        rcases h with e | e | e | e
        · have := HN1.out j (.inl e); omega
        · omega
        · omega
        · have := (HNA.out j e).2; omega)
      have HBX := Lib.hid (show B ≤ X ∧ B ≤ Y by have := HXE.out; exact ⟨by omega, by omega⟩)
      clear hYe hs12
      obtain ⟨R, R', v, u, hp⟩ := HP3.out
      have hbw := lt_of_block hp.c.blk
      have HNB := Lib.hid (show ∀ g, blockOf na = some g → g ≠ b from fun g hg e => (hp.n g (.inr (.inr (.inr hg)))).1 (.inl (.inl e)))
      refine wp_region_held_drew (S := fun w' => w'.heap[X]? = some (.cells #[.int .i64 0, .int .i64 ok, .int .i64 of, .int .i64 om, .slice da dl.length dc, .int .i64 ai, .int .i64 ae, .int .i64 as_, .int .i64 an, .int .i64 al, .slice ra rl.length rc] 58 (0, 0)) ∧ w'.heap[Y]? = some (.cells #[.int .i64 ok, .int .i64 of, .int .i64 om, .slice na dl.length nc] 32 (0, 0))) (by kernel_rfl) ⟨HX3.out, HY.out⟩ (fun hHeld => ?_)
      have HPV := Lib.hid (hp.no (Kp.refl _ _).drew)
      have HD := Lib.hid (HD3.out.kp (Kp.refl (fun _ => False) _).drew (fun _ h => h.elim))
      have HO := Lib.hid (HO3.out.kp (Kp.refl (fun _ => False) _).drew (fun _ _ h => h))
      have HK := Lib.hid (HK3.out.drew)
      have HN := Lib.hid (show ∀ j, N j ∨ j = X ∨ j = Y ∨ blockOf na = some j → j < w3.drew.heap.size from HN3.out)
      clear hp HP3 HD3 HO3 HK3 HX3 HY HN3
      generalize w3.drew = y0 at hHeld HPV HD HO HK HN ⊢
      refine wpAnyH_take (i := 0) (v := ?_) rfl (by kernel_rfl) (by kernel_rfl) (by kernel_rfl) (fun _ _ _ h => h) (Or.inl ⟨by rfl, ?_⟩) (by assumption) ?_
      rotate_left
      · intro w hSw
        try dsimp only at hSw
        go_simp
        try with_reducible rfl
      try simp only [Act.put, List.getElem_toArray, List.getElem_cons_zero, List.getElem_cons_succ, List.setIfInBounds_toArray, List.set_cons_zero, List.set_cons_succ]
      refine wpAnyH_take (i := 1) (v := .agg ([Value.int .i64 ok, .int .i64 of, .int .i64 om, .slice na dl.length nc] : List Value).toArray) rfl (by kernel_rfl) (by kernel_rfl) (by kernel_rfl) (fun _ _ _ h => h) (yieldsIf_load_mid (by rfl) 32 _ rfl Y (0) rfl [Value.int .i64 ok, .int .i64 of, .int .i64 om, .slice na dl.length nc] _ (fun w hw => World.rangeAt_of_block hw.2 0 4) Try.underlying32 rfl (by kernel_rfl)) (by assumption) ?_
      try simp only [Act.put, List.getElem_toArray, List.getElem_cons_zero, List.getElem_cons_succ, List.setIfInBounds_toArray, List.set_cons_zero, List.set_cons_succ]
      refine wpAnyH_take (i := 4) (v := ?_) rfl (by kernel_rfl) (by kernel_rfl) (by kernel_rfl) (fun _ _ _ h => h) (Or.inl ⟨by rfl, ?_⟩) (by assumption) ?_
      rotate_left
      · intro w hSw
        try dsimp only at hSw
        go_simp
        try with_reducible rfl
      try simp only [Act.put, List.getElem_toArray, List.getElem_cons_zero, List.getElem_cons_succ, List.setIfInBounds_toArray, List.set_cons_zero, List.set_cons_succ]
      refine wpAnyH_take (i := 5) (v := ?_) rfl (by kernel_rfl) (by kernel_rfl) (by kernel_rfl) (fun _ _ _ h => h) (Or.inl ⟨by rfl, ?_⟩) (by assumption) ?_
      rotate_left
      · intro w hSw
        try dsimp only at hSw
        go_simp
        try with_reducible rfl
      try simp only [Act.put, List.getElem_toArray, List.getElem_cons_zero, List.getElem_cons_succ, List.setIfInBounds_toArray, List.set_cons_zero, List.set_cons_succ]
      refine wpAnyH_take (i := 6) (v := .agg ([Value.int .i64 ok, .int .i64 of, .int .i64 om, .slice da dl.length dc] : List Value).toArray) rfl (by kernel_rfl) (by kernel_rfl) (by kernel_rfl) (fun _ _ _ h => h) (yieldsIf_load_mid (by rfl) 54 _ rfl X (1) rfl [Value.int .i64 ok, .int .i64 of, .int .i64 om, .slice da dl.length dc] _ (fun w hw => World.rangeAt_of_block hw.1 1 4) Try.underlying54 rfl (by kernel_rfl)) (by assumption) ?_
      try simp only [Act.put, List.getElem_toArray, List.getElem_cons_zero, List.getElem_cons_succ, List.setIfInBounds_toArray, List.set_cons_zero, List.set_cons_succ]
      refine wpAnyH_ready (rs := [2]) (by kernel_rfl) (by simp) ?_
      refine AllReadyH.cons rfl (fun K hK => ?_) AllReadyH.nil
      go_simp
      refine (do_pv HPV.out HN.out hT ⟨ok, of, om, na, dl, nc⟩ ⟨ok, of, om, da, dl, dc⟩ ⟨rfl, rfl, rfl, rfl⟩ HO.out.row HNB.out HD.out HDM.out).mono ?_
      rintro e y1 ⟨E, rfl, hk1, hth⟩
      refine hK.out _ _ ⟨hk1.heap hHeld.1 (fun e => e.2 (.inr (.inl rfl))), hk1.heap hHeld.2 (fun e => e.2 (.inr (.inr (.inl rfl))))⟩ (fun hHeld1 => ?_)
      clear hK K hHeld
      try simp only [Act.put, List.getElem_toArray, List.getElem_cons_zero, List.getElem_cons_succ, List.setIfInBounds_toArray, List.set_cons_zero, List.set_cons_succ]
      have HTH := Lib.hid hth
      have HK1 := Lib.hid (HK.out.trans (hk1.mono (fun j _ h => ⟨h.1, fun e => h.2 (.inl e)⟩)))
      have HO1 := Lib.hid (HO.out.kp hk1 (fun g hg e => e.2 (.inr (.inr (.inr hg)))))
      clear hk1 hth HK HO HPV
      refine wpAnyH_ready (rs := [3]) (by kernel_rfl) (by simp) ?_
      refine AllReadyH.cons rfl (fun K hK => ?_) AllReadyH.nil
      go_simp
      refine (num_dr _ _).mono ?_
      rintro e w' ⟨rfl, rfl⟩
      refine hK.out _ _ hHeld1 (fun hHeld2 => ?_)
      clear hK K hHeld1
      try simp only [Act.put, List.getElem_toArray, List.getElem_cons_zero, List.getElem_cons_succ, List.setIfInBounds_toArray, List.set_cons_zero, List.set_cons_succ]
      refine wpAnyH_ready (rs := [7]) (by kernel_rfl) (by simp) ?_
      refine AllReadyH.cons rfl (fun K hK => ?_) AllReadyH.nil
      go_simp
      refine (HTH.out _ (Kp.refl _ _)).mono ?_
      rintro e y2 ⟨rfl, hp2, hk2⟩
      refine hK.out _ _ ⟨hk2.heap hHeld2.1 (fun e => e.2.1 (.inr (.inl rfl))), hk2.heap hHeld2.2 (fun e => e.2.1 (.inr (.inr (.inl rfl))))⟩ (fun hHeld3 => ?_)
      clear hK K
      try simp only [Act.put, List.getElem_toArray, List.getElem_cons_zero, List.getElem_cons_succ, List.setIfInBounds_toArray, List.set_cons_zero, List.set_cons_succ]
      have HP2 := Lib.hid hp2
      have HK2 := Lib.hid (HK1.out.trans (hk2.mono (fun j _ h => ⟨h.1, fun e => h.2.1 (.inl e)⟩)))
      have HO2 := Lib.hid (HO1.out.kp hk2 (fun g hg e => e.2.1 (.inr (.inr (.inr hg)))))
      have HY2 := Lib.hid (show y2.heap[Y]? = some (.cells #[.int .i64 ok, .int .i64 of, .int .i64 om, .slice na dl.length nc] 32 (0, 0)) from hHeld3.2)
      clear hp2 hk2 hHeld2 HTH HK1 HO1
      refine wpAnyH_take (i := 8) (v := .bool true) rfl (by kernel_rfl) (by kernel_rfl) (by kernel_rfl) (fun _ _ _ h => h) (Or.inl ⟨by rfl, ?_⟩) (by assumption) ?_
      · intro w hSw
        try dsimp only at hSw
        go_simp
        try with_reducible rfl
      try simp only [Act.put, List.getElem_toArray, List.getElem_cons_zero, List.getElem_cons_succ, List.setIfInBounds_toArray, List.set_cons_zero, List.set_cons_succ]
      refine wpAnyH_take (i := 9) (v := ?_) rfl (by kernel_rfl) (by kernel_rfl) (by kernel_rfl) (fun _ _ _ h => h) (Or.inl ⟨by rfl, ?_⟩) (by assumption) ?_
      rotate_left
      · intro w hSw
        try dsimp only at hSw
        go_simp
        try with_reducible rfl
      try simp only [Act.put, List.getElem_toArray, List.getElem_cons_zero, List.getElem_cons_succ, List.setIfInBounds_toArray, List.set_cons_zero, List.set_cons_succ]
      refine wpAnyH_done (by kernel_rfl) ?_ _
      obtain ⟨n, hn⟩ : ∃ n, n = dl.length := ⟨_, rfl⟩
      have HDL := Lib.hid hn
      rw [← hn] at HO2 HY2 HDM
      have hNM := HDM.out
      clear hn
      go_wp2_with fail
      go_loopw [9] (fun q wr => ∃ (i : Nat) (zs : List Int), q = .int .i64 i ∧ i ≤ n ∧ PW wr B (fun j => N j ∨ j = X ∨ j = Y ∨ blockOf na = some j) b rb (T + 1) ∧ wr.heap[Y]? = some (.cells #[.int .i64 ok, .int .i64 of, .int .i64 om, .slice na n nc] 32 (0, 0)) ∧ Owns wr w1.heap.size 5 1 na n nc (bytes zs) ∧ Kp (fun j => B ≤ j ∧ ¬ N j) w wr) (fun q _ => n - (intOf q).toNat)
      case atStart => exact ⟨0, dl, rfl, Nat.zero_le _, HP2.out, HY2.out, HO2.out, HK2.out⟩
      case round =>
        clear HP2 HY2 HO2 HK2
        obtain ⟨i, zs, rfl, hi, hp, hy, ho, hk⟩ := hrel
        have HPR := Lib.hid hp
        have HYR := Lib.hid hy
        have HOR := Lib.hid ho
        have HKR := Lib.hid hk
        have y3 := cell_of hy 3 (v := .slice na n nc) rfl
        have hzl : zs.length = n := by have := ho.1; rw [bytes_length] at this; omega
        clear hp hy ho hk
        by_cases hlt : i < n
        · obtain ⟨g, rfl, hc⟩ := Owns.cell HOR.out (j := i) (u := .int .u8 (zs.getD i 0)) (by unfold bytes; rw [List.getElem?_map, List.getElem?_eq_getElem (by omega)]; simp [List.getD, List.getElem?_eq_getElem (show i < zs.length by omega)])
          obtain ⟨z, hz⟩ : ∃ z, z = zs.getD i 0 := ⟨_, rfl⟩
          rw [← hz] at hc
          obtain ⟨cs, hgb⟩ := Owns.type HOR.out (b := g) rfl
          have hfz := free_of hgb i
          have hgY : g ≠ Y := fun e => by have h1 := HNA.out g rfl; omega
          have hiI : (i : Int) < (n : Int) := by omega
          have hi0 : (0 : Int) ≤ (i : Int) := by omega
          clear hgb hz
          go_upto_region 9 with fail
          refine wp_region_held_drew (S := fun w' => w'.cell? ⟨Y, 3, none⟩ = some (.slice (some ⟨g, 0, none⟩) n nc)) (by kernel_rfl) y3 (fun hHeld => ?_)
          have hc0 : wr.drew.cell? ⟨g, i, none⟩ = some (.int .u8 z) := hc
          have hfz0 : wr.drew.frozen? ⟨g, i, none⟩ = false := hfz
          refine wpAnyH_take (i := 0) (v := ?_) rfl (by kernel_rfl) (by kernel_rfl) (by kernel_rfl) (fun _ _ _ h => h) (Or.inl ⟨by rfl, ?_⟩) (by assumption) ?_
          rotate_left
          · intro w hSw
            try dsimp only at hSw
            go_simp
            try with_reducible rfl
          try simp only [Act.put, List.getElem_toArray, List.getElem_cons_zero, List.getElem_cons_succ, List.setIfInBounds_toArray, List.set_cons_zero, List.set_cons_succ]
          refine wpAnyH_take (i := 1) (v := .slice (some ⟨g, 0, none⟩) n nc) rfl (by kernel_rfl) (by kernel_rfl) (by kernel_rfl) (fun _ _ _ h => h) (Or.inl ⟨by rfl, ?_⟩) (by assumption) ?_
          · intro w hSw
            have hc1 := hSw
            try dsimp only at hSw
            go_simp
            try with_reducible rfl
          try simp only [Act.put, List.getElem_toArray, List.getElem_cons_zero, List.getElem_cons_succ, List.setIfInBounds_toArray, List.set_cons_zero, List.set_cons_succ]
          refine wpAnyH_take (i := 2) (v := ?_) rfl (by kernel_rfl) (by kernel_rfl) (by kernel_rfl) (fun _ _ _ h => h) (Or.inl ⟨by rfl, ?_⟩) (by assumption) ?_
          rotate_left
          · intro w hSw
            try dsimp only at hSw
            go_simp
            try with_reducible rfl
          try simp only [Act.put, List.getElem_toArray, List.getElem_cons_zero, List.getElem_cons_succ, List.setIfInBounds_toArray, List.set_cons_zero, List.set_cons_succ]
          refine wpAnyH_take (i := 3) (v := ?_) rfl (by kernel_rfl) (by kernel_rfl) (by kernel_rfl) (fun _ _ _ h => h) (Or.inl ⟨by rfl, ?_⟩) (by assumption) ?_
          rotate_left
          · intro w hSw
            try dsimp only at hSw
            go_simp
            try with_reducible rfl
          try simp only [Act.put, List.getElem_toArray, List.getElem_cons_zero, List.getElem_cons_succ, List.setIfInBounds_toArray, List.set_cons_zero, List.set_cons_succ]
          refine wpAnyH_take (i := 4) (v := .slice (some ⟨g, 0, none⟩) n nc) rfl (by kernel_rfl) (by kernel_rfl) (by kernel_rfl) (fun _ _ _ h => h) (Or.inl ⟨by rfl, ?_⟩) (by assumption) ?_
          · intro w hSw
            have hc1 := hSw
            try dsimp only at hSw
            go_simp
            try with_reducible rfl
          try simp only [Act.put, List.getElem_toArray, List.getElem_cons_zero, List.getElem_cons_succ, List.setIfInBounds_toArray, List.set_cons_zero, List.set_cons_succ]
          refine wpAnyH_take (i := 5) (v := ?_) rfl (by kernel_rfl) (by kernel_rfl) (by kernel_rfl) (fun _ _ _ h => h) (Or.inl ⟨by rfl, ?_⟩) (by assumption) ?_
          rotate_left
          · intro w hSw
            try dsimp only at hSw
            go_simp
            try with_reducible rfl
          try simp only [Act.put, List.getElem_toArray, List.getElem_cons_zero, List.getElem_cons_succ, List.setIfInBounds_toArray, List.set_cons_zero, List.set_cons_succ]
          refine wpAnyH_take (i := 6) (v := ?_) rfl (by kernel_rfl) (by kernel_rfl) (by kernel_rfl) (fun _ _ _ h => h) (Or.inl ⟨by rfl, ?_⟩) (by assumption) ?_
          rotate_left
          · intro w hSw
            try dsimp only at hSw
            go_simp
            try with_reducible rfl
          try simp only [Act.put, List.getElem_toArray, List.getElem_cons_zero, List.getElem_cons_succ, List.setIfInBounds_toArray, List.set_cons_zero, List.set_cons_succ]
          refine wpAnyH_ready (rs := [7]) (by kernel_rfl) (by simp) ?_
          refine AllReadyH.cons rfl (fun K hK => ?_) AllReadyH.nil
          go_simp
          refine hK.out _ _ hHeld (fun hHeld1 => ?_)
          clear hK K
          try simp only [Act.put, List.getElem_toArray, List.getElem_cons_zero, List.getElem_cons_succ, List.setIfInBounds_toArray, List.set_cons_zero, List.set_cons_succ]
          refine wpAnyH_take (i := 8) (v := ?_) rfl (by kernel_rfl) (by kernel_rfl) (by kernel_rfl) (fun _ _ _ h => h) (Or.inl ⟨by rfl, ?_⟩) (by assumption) ?_
          rotate_left
          · intro w hSw
            try dsimp only at hSw
            go_simp
            try with_reducible rfl
          try simp only [Act.put, List.getElem_toArray, List.getElem_cons_zero, List.getElem_cons_succ, List.setIfInBounds_toArray, List.set_cons_zero, List.set_cons_succ]
          refine wpAnyH_take (i := 9) (v := ?_) rfl (by kernel_rfl) (by kernel_rfl) (by kernel_rfl) (fun _ _ _ h => h) (Or.inl ⟨by rfl, ?_⟩) (by assumption) ?_
          rotate_left
          · intro w hSw
            try dsimp only at hSw
            go_simp
            try with_reducible rfl
          try simp only [Act.put, List.getElem_toArray, List.getElem_cons_zero, List.getElem_cons_succ, List.setIfInBounds_toArray, List.set_cons_zero, List.set_cons_succ]
          refine wpAnyH_ready (rs := [10]) (by kernel_rfl) (by simp) ?_
          refine AllReadyH.cons rfl (fun K hK => ?_) AllReadyH.nil
          go_simp
          refine hK.out _ _ (far_cell hHeld1 (fun e => hgY e.symm)) (fun hHeld2 => ?_)
          clear hK K
          try simp only [Act.put, List.getElem_toArray, List.getElem_cons_zero, List.getElem_cons_succ, List.setIfInBounds_toArray, List.set_cons_zero, List.set_cons_succ]
          refine wpAnyH_done (by kernel_rfl) ?_ _
          have hk4 : Kp (fun j => j = g) wr (wr.drew.setCell ⟨g, i, none⟩ (.int .u8 (IntKind.u8.wrap (z + 1)))) := ((Kp.refl (fun j => j = g) wr).drew).setCell (p := ⟨g, i, none⟩) (.inl rfl) _
          have HP4 := Lib.hid (HPR.out.kp hk4 (fun j (e : j = g) => ⟨.inl (.inr (.inr (.inr (by rw [e]; rfl)))), by have := (HNA.out g rfl).1; have := HXE.out; have := HBX.out; omega⟩))
          have HY4 := Lib.hid (hk4.heap HYR.out (fun e => hgY e.symm))
          have ho4 := Owns.set1 (HOR.out.kp (Kp.refl (fun _ => False) wr).drew (fun _ _ h => h)) rfl hlt (.int .u8 (IntKind.u8.wrap (z + 1)))
          have hbz : (bytes zs).set i (.int .u8 (IntKind.u8.wrap (z + 1))) = bytes (zs.set i (IntKind.u8.wrap (z + 1))) := by unfold bytes; rw [List.map_set]
          rw [hbz] at ho4
          have HO4 := Lib.hid ho4
          have HK4 := Lib.hid (HKR.out.andThen (hk4.mono (S' := fun j => j = g) (fun _ _ h => h)) (fun j hj (e : j = g) => by have := (HNA.out g rfl).1; have := HXE.out; omega))
          clear hk4 ho4 hbz hc0 hfz0 hHeld hHeld1 hHeld2 hc hfz y3 HPR HYR HOR HKR
          go_wp2_with fail
          go_roundw
          case rel => exact ⟨i + 1, _, by go_num, by omega, HP4.out, HY4.out, HO4.out, HK4.out⟩
          case measure => simp [intOf]; omega
        · obtain rfl : i = n := by omega
          go_wp2_with fail
          go_meet
          exact ⟨rfl, HPR.out.other (fun j h => .inl (.inl h)), HKR.out⟩
    · by_cases h15 : kind = 1 ∨ kind = 5
      · have HRM := Lib.hid (show rl.length * 24 ≤ 140737488355328 from by have := HSZ.out.r; dsimp only at this; omega)
        have HRI := Lib.hid (show ∀ r ∈ rl, r.d.length ≤ 140737488355328 from fun r hr => by have := HSZ.out.i r hr; omega)
        have HLR := Lib.hid (show Low w B ra (rl.map RecV.val) from HI.out.r)
        have HLI := Lib.hid (show ∀ r ∈ rl, Low w B r.a (bytes r.d) from HI.out.i)
        rcases h15 with h15 | h15
        all_goals
          (first
           | (subst h15
              clear h0
              have x5 := cell_of HX.out 5 (v := .int .i64 ai) rfl
              have x6 := cell_of HX.out 6 (v := .int .i64 ae) rfl
              have x7 := cell_of HX.out 7 (v := .int .i64 as_) rfl
              have x8 := cell_of HX.out 8 (v := .int .i64 an) rfl
              have x9 := cell_of HX.out 9 (v := .int .i64 al) rfl
              have x10 := cell_of HX.out 10 (v := .slice ra rl.length rc) rfl
              go_upto_region 13 with fail
              clear x5 x6 x7 x8 x9 x10
              have hka2 := (Kp.refl (fun _ => False) w1).alloc (.cells #[.int .i64 ai, .int .i64 ae, .int .i64 as_, .int .i64 an, .int .i64 al, .slice ra rl.length rc] 56)
              have HZ := Lib.hid (heap_new w1 (.cells #[.int .i64 ai, .int .i64 ae, .int .i64 as_, .int .i64 an, .int .i64 al, .slice ra rl.length rc] 56))
              have hX1 : X < w1.heap.size := lt_of_block HX.out
              have HX2 := Lib.hid (hka2.heap HX.out (fun h => h))
              have HP2 := Lib.hid ((HP.out.other (N' := fun j => N j ∨ j = X ∨ j = w1.heap.size) (fun j h => by
                rcases h with e | e | e
                · exact .inl (.inl e)
                · exact .inl (.inr e)
                · exact .inr (Nat.le_of_eq e.symm))).no hka2)
              have HK2 := Lib.hid ((HKA.out.trans hka2).mono (S' := fun j => B ≤ j ∧ ¬ N j) (fun _ _ h => h.elim))
              have hs12 := hka2.size
              have HW1 := HKA.out.size
              clear hka2
              generalize w1.alloc (.cells #[.int .i64 ai, .int .i64 ae, .int .i64 as_, .int .i64 an, .int .i64 al, .slice ra rl.length rc] 56) = w2 at HZ HX2 HP2 HK2 hs12 ⊢
              obtain ⟨Z, hZe⟩ : ∃ Z, Z = w1.heap.size := ⟨_, rfl⟩
              rw [← hZe] at HZ HP2 hX1 hs12 HW1 ⊢
              clear hZe
              have xk := cell_of HX2.out 0 (v := .int .i64 1) rfl
              go_upto_region 15 with fail
              clear xk
              obtain ⟨id, hid⟩ : ∃ id, id = ai := ⟨_, rfl⟩
              subst hid)
           | (subst h15
              clear h0
              have x5 := cell_of HX.out 5 (v := .int .i64 ai) rfl
              have x6 := cell_of HX.out 6 (v := .int .i64 ae) rfl
              have x7 := cell_of HX.out 7 (v := .int .i64 as_) rfl
              have x8 := cell_of HX.out 8 (v := .int .i64 an) rfl
              have x9 := cell_of HX.out 9 (v := .int .i64 al) rfl
              have x10 := cell_of HX.out 10 (v := .slice ra rl.length rc) rfl
              go_upto_region 13 with fail
              clear x5 x6 x7 x8 x9 x10
              have hka2 := (Kp.refl (fun _ => False) w1).alloc (.cells #[.int .i64 ai, .int .i64 ae, .int .i64 as_, .int .i64 an, .int .i64 al, .slice ra rl.length rc] 56)
              have HZ := Lib.hid (heap_new w1 (.cells #[.int .i64 ai, .int .i64 ae, .int .i64 as_, .int .i64 an, .int .i64 al, .slice ra rl.length rc] 56))
              have hX1 : X < w1.heap.size := lt_of_block HX.out
              have HX2 := Lib.hid (hka2.heap HX.out (fun h => h))
              have HP2 := Lib.hid ((HP.out.other (N' := fun j => N j ∨ j = X ∨ j = w1.heap.size) (fun j h => by
                rcases h with e | e | e
                · exact .inl (.inl e)
                · exact .inl (.inr e)
                · exact .inr (Nat.le_of_eq e.symm))).no hka2)
              have HK2 := Lib.hid ((HKA.out.trans hka2).mono (S' := fun j => B ≤ j ∧ ¬ N j) (fun _ _ h => h.elim))
              have hs12 := hka2.size
              have HW1 := HKA.out.size
              clear hka2
              generalize w1.alloc (.cells #[.int .i64 ai, .int .i64 ae, .int .i64 as_, .int .i64 an, .int .i64 al, .slice ra rl.length rc] 56) = w2 at HZ HX2 HP2 HK2 hs12 ⊢
              obtain ⟨Z, hZe⟩ : ∃ Z, Z = w1.heap.size := ⟨_, rfl⟩
              rw [← hZe] at HZ HP2 hX1 hs12 HW1 ⊢
              clear hZe
              have xk := cell_of HX2.out 0 (v := .int .i64 5) rfl
              go_upto_region 14 with fail
              clear xk
              obtain ⟨R0, R0', v0, u0, hp0⟩ := HP2.out
              have e0 := hp0.s.id
              have e1 := hp0.s.tries
              have i1 := hp0.r.id1
              have i2 := hp0.r.id2
              have t0 := hp0.t0
              have t1 := hp0.t1
              have w1m : IntKind.i64.wrap (u0.id * 1000000) = u0.id * 1000000 := IntWalk.i64_in _ (by omega)
              have w1a : IntKind.i64.wrap (u0.id * 1000000 + u0.tries) = u0.id * 1000000 + u0.tries := IntWalk.i64_in _ (by omega)
              have hZr : ¬ rb = Z := fun e => (hp0.n Z (.inr (.inr rfl))).2 (.inl (.inl e.symm))
              have c0 := cell_of hp0.r.blk 0 (v := .int .i64 u0.id) rfl
              have c5 := cell_of hp0.r.blk 5 (v := .int .i64 u0.tries) rfl
              refine wp_region_held_drew (S := fun w' => w'.cell? ⟨rb, 0, none⟩ = some (.int .i64 u0.id) ∧ w'.cell? ⟨rb, 5, none⟩ = some (.int .i64 u0.tries)) (by kernel_rfl) ⟨c0, c5⟩ (fun hHeld => ?_)
              clear c0 c5 hp0 e0 e1
              refine wpAnyH_take (i := 0) (v := ?_) rfl (by kernel_rfl) (by kernel_rfl) (by kernel_rfl) (fun _ _ _ h => h) (Or.inl ⟨by rfl, ?_⟩) (by assumption) ?_
              rotate_left
              · intro w hSw
                try dsimp only at hSw
                go_simp
                try with_reducible rfl
              try simp only [Act.put, List.getElem_toArray, List.getElem_cons_zero, List.getElem_cons_succ, List.setIfInBounds_toArray, List.set_cons_zero, List.set_cons_succ]
              refine wpAnyH_take (i := 1) (v := ?_) rfl (by kernel_rfl) (by kernel_rfl) (by kernel_rfl) (fun _ _ _ h => h) (Or.inl ⟨by rfl, ?_⟩) (by assumption) ?_
              rotate_left
              · intro w hSw
                try dsimp only at hSw
                go_simp
                try with_reducible rfl
              try simp only [Act.put, List.getElem_toArray, List.getElem_cons_zero, List.getElem_cons_succ, List.setIfInBounds_toArray, List.set_cons_zero, List.set_cons_succ]
              refine wpAnyH_take (i := 2) (v := ?_) rfl (by kernel_rfl) (by kernel_rfl) (by kernel_rfl) (fun _ _ _ h => h) (Or.inl ⟨by rfl, ?_⟩) (by assumption) ?_
              rotate_left
              · intro w hSw
                try dsimp only at hSw
                go_simp
                try with_reducible rfl
              try simp only [Act.put, List.getElem_toArray, List.getElem_cons_zero, List.getElem_cons_succ, List.setIfInBounds_toArray, List.set_cons_zero, List.set_cons_succ]
              refine wpAnyH_take (i := 3) (v := .int .i64 u0.id) rfl (by kernel_rfl) (by kernel_rfl) (by kernel_rfl) (fun _ _ _ h => h) (Or.inl ⟨by rfl, ?_⟩) (by assumption) ?_
              · intro w hSw
                have hc := hSw.1
                try dsimp only at hSw
                go_simp
                try with_reducible rfl
              try simp only [Act.put, List.getElem_toArray, List.getElem_cons_zero, List.getElem_cons_succ, List.setIfInBounds_toArray, List.set_cons_zero, List.set_cons_succ]
              refine wpAnyH_take (i := 4) (v := .int .i64 (u0.id * 1000000)) rfl (by kernel_rfl) (by kernel_rfl) (by kernel_rfl) (fun _ _ _ h => h) (Or.inl ⟨by rfl, ?_⟩) (by assumption) ?_
              · intro w hSw
                try dsimp only at hSw
                go_simp
                try with_reducible rfl
              try simp only [Act.put, List.getElem_toArray, List.getElem_cons_zero, List.getElem_cons_succ, List.setIfInBounds_toArray, List.set_cons_zero, List.set_cons_succ]
              refine wpAnyH_take (i := 5) (v := ?_) rfl (by kernel_rfl) (by kernel_rfl) (by kernel_rfl) (fun _ _ _ h => h) (Or.inl ⟨by rfl, ?_⟩) (by assumption) ?_
              rotate_left
              · intro w hSw
                try dsimp only at hSw
                go_simp
                try with_reducible rfl
              try simp only [Act.put, List.getElem_toArray, List.getElem_cons_zero, List.getElem_cons_succ, List.setIfInBounds_toArray, List.set_cons_zero, List.set_cons_succ]
              refine wpAnyH_take (i := 6) (v := ?_) rfl (by kernel_rfl) (by kernel_rfl) (by kernel_rfl) (fun _ _ _ h => h) (Or.inl ⟨by rfl, ?_⟩) (by assumption) ?_
              rotate_left
              · intro w hSw
                try dsimp only at hSw
                go_simp
                try with_reducible rfl
              try simp only [Act.put, List.getElem_toArray, List.getElem_cons_zero, List.getElem_cons_succ, List.setIfInBounds_toArray, List.set_cons_zero, List.set_cons_succ]
              refine wpAnyH_take (i := 7) (v := ?_) rfl (by kernel_rfl) (by kernel_rfl) (by kernel_rfl) (fun _ _ _ h => h) (Or.inl ⟨by rfl, ?_⟩) (by assumption) ?_
              rotate_left
              · intro w hSw
                try dsimp only at hSw
                go_simp
                try with_reducible rfl
              try simp only [Act.put, List.getElem_toArray, List.getElem_cons_zero, List.getElem_cons_succ, List.setIfInBounds_toArray, List.set_cons_zero, List.set_cons_succ]
              refine wpAnyH_take (i := 8) (v := .int .i64 u0.tries) rfl (by kernel_rfl) (by kernel_rfl) (by kernel_rfl) (fun _ _ _ h => h) (Or.inl ⟨by rfl, ?_⟩) (by assumption) ?_
              · intro w hSw
                have hc := hSw.2
                try dsimp only at hSw
                go_simp
                try with_reducible rfl
              try simp only [Act.put, List.getElem_toArray, List.getElem_cons_zero, List.getElem_cons_succ, List.setIfInBounds_toArray, List.set_cons_zero, List.set_cons_succ]
              refine wpAnyH_take (i := 9) (v := .int .i64 (u0.id * 1000000 + u0.tries)) rfl (by kernel_rfl) (by kernel_rfl) (by kernel_rfl) (fun _ _ _ h => h) (Or.inl ⟨by rfl, ?_⟩) (by assumption) ?_
              · intro w hSw
                try dsimp only at hSw
                go_simp
                try with_reducible rfl
              try simp only [Act.put, List.getElem_toArray, List.getElem_cons_zero, List.getElem_cons_succ, List.setIfInBounds_toArray, List.set_cons_zero, List.set_cons_succ]
              refine wpAnyH_take (i := 10) (v := ?_) rfl (by kernel_rfl) (by kernel_rfl) (by kernel_rfl) (fun _ _ _ h => h) (Or.inl ⟨by rfl, ?_⟩) (by assumption) ?_
              rotate_left
              · intro w hSw
                try dsimp only at hSw
                go_simp
                try with_reducible rfl
              try simp only [Act.put, List.getElem_toArray, List.getElem_cons_zero, List.getElem_cons_succ, List.setIfInBounds_toArray, List.set_cons_zero, List.set_cons_succ]
              have zc : w2.drew.cell? ⟨Z, 0, none⟩ = some (.int .i64 ai) := cell_of (show w2.drew.heap[Z]? = _ from HZ.out) 0 rfl
              have zf : w2.drew.frozen? ⟨Z, 0, none⟩ = false := free_of (show w2.drew.heap[Z]? = _ from HZ.out) 0
              refine wpAnyH_ready (rs := [11]) (by kernel_rfl) (by simp) ?_
              refine AllReadyH.cons rfl (fun K hK => ?_) AllReadyH.nil
              go_simp
              refine hK.out _ _ ⟨far_cell hHeld.1 hZr, far_cell hHeld.2 hZr⟩ (fun hHeld1 => ?_)
              clear hK K
              try simp only [Act.put, List.getElem_toArray, List.getElem_cons_zero, List.getElem_cons_succ, List.setIfInBounds_toArray, List.set_cons_zero, List.set_cons_succ]
              refine wpAnyH_done (by kernel_rfl) ?_ _
              obtain ⟨id, hid⟩ : ∃ id, id = u0.id * 1000000 + u0.tries := ⟨_, rfl⟩
              have hks : Kp (fun j => j = Z) w2 ((w2.setCell ⟨Z, 0, none⟩ (.int .i64 id)).drew) := ((Kp.refl (fun j => j = Z) w2).setCell (p := ⟨Z, 0, none⟩) (.inl rfl) _).drew
              rw [← hid]
              have hZB : B ≤ Z := by have := HXE.out; omega
              have HZ' := Lib.hid (show ((w2.setCell ⟨Z, 0, none⟩ (.int .i64 id)).drew).heap[Z]? = _ from heap_set HZ.out 0 (.int .i64 id))
              have HX2' := Lib.hid (hks.heap HX2.out (fun e => by have e2 : X = Z := e; omega))
              have HP2' := Lib.hid (HP2.out.kp hks (fun j (e : j = Z) => ⟨.inl (.inr (.inr e)), by omega⟩))
              have HK2' := Lib.hid (HK2.out.andThen (hks.mono (S' := fun j => j = Z) (fun _ _ h => h)) (fun j hj (e : j = Z) => by omega))
              have hs12' : Z ≤ ((w2.setCell ⟨Z, 0, none⟩ (.int .i64 id)).drew).heap.size := Nat.le_trans hs12 hks.size
              clear hHeld hHeld1 zc zf w1m w1a HZ HX2 HP2 HK2 hs12 hks hid i1 i2 t0 t1 hZr hZB
              generalize (w2.setCell ⟨Z, 0, none⟩ (.int .i64 id)).drew = w2 at HZ' HX2' HP2' HK2' hs12' ⊢
              have HZ := Lib.hid (show w2.heap[Z]? = some (.cells #[.int .i64 id, .int .i64 ae, .int .i64 as_, .int .i64 an, .int .i64 al, .slice ra rl.length rc] 56 (0, 0)) from HZ'.out)
              have HX2 := HX2'
              have HP2 := HP2'
              have HK2 := HK2'
              have hs12 := hs12'
              clear HZ' HX2' HP2' HK2' hs12'
              go_upto_region 15 with fail)
           have z0 := cell_of HZ.out 0 (v := .int .i64 id) rfl
           have z1 := cell_of HZ.out 1 (v := .int .i64 ae) rfl
           have z2 := cell_of HZ.out 2 (v := .int .i64 as_) rfl
           have z3 := cell_of HZ.out 3 (v := .int .i64 an) rfl
           have z4 := cell_of HZ.out 4 (v := .int .i64 al) rfl
           have z5 := cell_of HZ.out 5 (v := .slice ra rl.length rc) rfl
           have HLR2 := Lib.hid (HLR.out.kp HK2.out (fun j h => h.1))
           have HLI2 := Lib.hid (fun r h => (HLI.out r h).kp HK2.out (fun j h => h.1))
           have hBZ : B ≤ Z := by omega
           go_wp2_with fail
           refine (answer_own id ae as_ an al ra rl rc HLR2.out.row (fun r hr => ⟨(HLI2.out r hr).row, HRI.out r hr⟩) HRM.out).mono ?_
           rintro e w3 ⟨na, new, nc, rfl, hnl, hcp, hrow, hfr, hk3⟩
           clear z0 z1 z2 z3 z4 z5
           have hka4 := (Kp.refl (fun _ => False) w3).alloc (.cells #[.int .i64 id, .int .i64 ae, .int .i64 as_, .int .i64 an, .slice na new.length nc, .int .i64 al] 47)
           have hV4 := heap_new w3 (.cells #[.int .i64 id, .int .i64 ae, .int .i64 as_, .int .i64 an, .slice na new.length nc, .int .i64 al] 47)
           have hk24 := hk3.trans hka4
           have hs23 := hk3.size
           have HNR := Lib.hid (show ∀ r ∈ new, ∀ g, blockOf r.a = some g → w2.heap.size ≤ g ∧ g < w3.heap.size from fun r hr g hg => (hcp.c.row r hr).2 g hg)
           have HNA := Lib.hid (show ∀ g, blockOf na = some g → w2.heap.size ≤ g ∧ g < w3.heap.size from hfr)
           have HP4 := Lib.hid (((HP2.out.other (N' := fun j => (N j ∨ j = X ∨ j = Z) ∨ w2.heap.size ≤ j) (fun j h => h)).no hk24).other (N' := fun j => N j ∨ j = X ∨ j = Z ∨ j = w3.heap.size ∨ blockOf na = some j ∨ ∃ r ∈ new, blockOf r.a = some j) (fun j h => .inl (by
             rcases h with e | e | e | e | e | ⟨r, hr, e⟩
             · exact .inl (.inl e)
             · exact .inl (.inr (.inl e))
             · exact .inl (.inr (.inr e))
             · exact .inr (by omega)
             · exact .inr (HNA.out j e).1
             · exact .inr (HNR.out r hr j e).1)))
           have HK4 := Lib.hid (HK2.out.trans (hk24.mono (fun _ _ h => h.elim)))
           have HZ4 := Lib.hid (hk24.heap HZ.out (fun h => h))
           have HV4 := Lib.hid hV4
           have HR4 := Lib.hid (hrow.no hka4)
           have HW4 := Lib.hid (show ∀ r ∈ new, Row (w3.alloc (.cells #[.int .i64 id, .int .i64 ae, .int .i64 as_, .int .i64 an, .slice na new.length nc, .int .i64 al] 47)) r.a (bytes r.d) ∧ Wrt (w3.alloc (.cells #[.int .i64 id, .int .i64 ae, .int .i64 as_, .int .i64 an, .slice na new.length nc, .int .i64 al] 47)) r from fun r hr => ⟨(hcp.c.row r hr).1.no hka4, (wrt_of (hcp.c.row r hr).1 (hcp.cs r hr)).kp hka4 (fun _ _ h => h)⟩)
           have HSR := Lib.hid (show SameR new rl from ⟨hnl, fun k p q hp hq => by
             obtain ⟨r0, h0, hd⟩ := hcp.c.same k p hp
             rw [hq] at h0
             cases h0
             exact hd⟩)
           have HLN := Lib.hid (show ∀ r ∈ new, r.d.length ≤ 140737488355328 from fun r hr => by
             obtain ⟨k, hk, hke⟩ := List.mem_iff_getElem.1 hr
             obtain ⟨r0, h0, h1⟩ := hcp.c.same k r (by rw [List.getElem?_eq_getElem hk, hke])
             rw [h1]; exact HRI.out r0 (List.mem_of_getElem? h0))
           have HNL := Lib.hid hnl
           have HLR4 := Lib.hid (HLR2.out.kp hk24 (fun _ h => h.elim))
           have HLI4 := Lib.hid (fun r h => (HLI2.out r h).kp hk24 (fun _ h => h.elim))
           have HNX := Lib.hid (show ∀ j, N j ∨ j = X ∨ j = Z ∨ j = w3.heap.size ∨ blockOf na = some j ∨ (∃ r ∈ new, blockOf r.a = some j) → j < (w3.alloc (.cells #[.int .i64 id, .int .i64 ae, .int .i64 as_, .int .i64 an, .slice na new.length nc, .int .i64 al] 47)).heap.size from fun j h => by
             have hv := lt_of_block hV4
             have hz := lt_of_block HZ.out
             have hx := lt_of_block HX2.out
             rcases h with e | e | e | e | e | ⟨r, hr, e⟩
             · have := HNN.out j e; have := HXE.out; omega
             · omega
             · omega
             · omega
             · have := (HNA.out j e).2; omega
             · have := (HNR.out r hr j e).2; omega)
           have hZ2 := lt_of_block HZ.out
           clear hnl hcp hrow hfr hk3 hka4 hV4 hk24 HLR2 HLI2 HP2 HK2 HZ HX2
           unfold AnsV.cells
           dsimp only
           go_upto_region 16 with fail
           generalize w3.alloc (.cells #[.int .i64 id, .int .i64 ae, .int .i64 as_, .int .i64 an, .slice na new.length nc, .int .i64 al] 47) = w4 at HP4 HK4 HZ4 HV4 HR4 HW4 HLR4 HLI4 HNX ⊢
           obtain ⟨V, hVe⟩ : ∃ V, V = w3.heap.size := ⟨_, rfl⟩
           rw [← hVe] at HP4 HV4 HNR HNA HNX hs23 ⊢
           have hZV : Z ≠ V := by omega
           clear hVe
           obtain ⟨R, R', v, u, hp⟩ := HP4.out
           refine wp_region_held_drew (S := fun w' => w'.heap[Z]? = some (.cells #[.int .i64 id, .int .i64 ae, .int .i64 as_, .int .i64 an, .int .i64 al, .slice ra rl.length rc] 56 (0, 0)) ∧ w'.heap[V]? = some (.cells #[.int .i64 id, .int .i64 ae, .int .i64 as_, .int .i64 an, .slice na new.length nc, .int .i64 al] 47 (0, 0))) (by kernel_rfl) ⟨HZ4.out, HV4.out⟩ (fun hHeld => ?_)
           have hd4 : Kp (fun _ => False) w4 w4.drew := (Kp.refl _ _).drew
           have HPV := Lib.hid (hp.no hd4)
           have HR0 := Lib.hid (HR4.out.no hd4)
           have HW0 := Lib.hid (fun r h => (⟨(HW4.out r h).1.no hd4, (HW4.out r h).2.kp hd4 (fun _ _ h => h)⟩ : Row w4.drew r.a (bytes r.d) ∧ Wrt w4.drew r))
           have HK0 := Lib.hid (HK4.out.drew)
           have HLR0 := Lib.hid (HLR4.out.kp hd4 (fun _ h => h.elim))
           have HLI0 := Lib.hid (fun r h => (HLI4.out r h).kp hd4 (fun _ h => h.elim))
           have HN0 := Lib.hid (show ∀ j, N j ∨ j = X ∨ j = Z ∨ j = V ∨ blockOf na = some j ∨ (∃ r ∈ new, blockOf r.a = some j) → j < w4.drew.heap.size from HNX.out)
           clear hp HP4 HR4 HW4 HK4 HLR4 HLI4 HNX HZ4 HV4 hd4
           generalize w4.drew = y0 at hHeld HPV HR0 HW0 HK0 HLR0 HLI0 HN0 ⊢
           refine wpAnyH_take (i := 0) (v := ?_) rfl (by kernel_rfl) (by kernel_rfl) (by kernel_rfl) (fun _ _ _ h => h) (Or.inl ⟨by rfl, ?_⟩) (by assumption) ?_
           rotate_left
           · intro w hSw
             try dsimp only at hSw
             go_simp
             try with_reducible rfl
           try simp only [Act.put, List.getElem_toArray, List.getElem_cons_zero, List.getElem_cons_succ, List.setIfInBounds_toArray, List.set_cons_zero, List.set_cons_succ]
           refine wpAnyH_take (i := 1) (v := .agg ([Value.int .i64 id, .int .i64 ae, .int .i64 as_, .int .i64 an, .slice na new.length nc, .int .i64 al] : List Value).toArray) rfl (by kernel_rfl) (by kernel_rfl) (by kernel_rfl) (fun _ _ _ h => h) (yieldsIf_load_mid (by rfl) 47 _ rfl V (0) rfl [Value.int .i64 id, .int .i64 ae, .int .i64 as_, .int .i64 an, .slice na new.length nc, .int .i64 al] _ (fun w hw => World.rangeAt_of_block hw.2 0 6) Try.underlying47 rfl (by kernel_rfl)) (by assumption) ?_
           try simp only [Act.put, List.getElem_toArray, List.getElem_cons_zero, List.getElem_cons_succ, List.setIfInBounds_toArray, List.set_cons_zero, List.set_cons_succ]
           refine wpAnyH_take (i := 4) (v := ?_) rfl (by kernel_rfl) (by kernel_rfl) (by kernel_rfl) (fun _ _ _ h => h) (Or.inl ⟨by rfl, ?_⟩) (by assumption) ?_
           rotate_left
           · intro w hSw
             try dsimp only at hSw
             go_simp
             try with_reducible rfl
           try simp only [Act.put, List.getElem_toArray, List.getElem_cons_zero, List.getElem_cons_succ, List.setIfInBounds_toArray, List.set_cons_zero, List.set_cons_succ]
           refine wpAnyH_take (i := 5) (v := .agg ([Value.int .i64 id, .int .i64 ae, .int .i64 as_, .int .i64 an, .int .i64 al, .slice ra rl.length rc] : List Value).toArray) rfl (by kernel_rfl) (by kernel_rfl) (by kernel_rfl) (fun _ _ _ h => h) (yieldsIf_load_mid (by rfl) 56 _ rfl Z (0) rfl [Value.int .i64 id, .int .i64 ae, .int .i64 as_, .int .i64 an, .int .i64 al, .slice ra rl.length rc] _ (fun w hw => World.rangeAt_of_block hw.1 0 6) Try.underlying56 rfl (by kernel_rfl)) (by assumption) ?_
           try simp only [Act.put, List.getElem_toArray, List.getElem_cons_zero, List.getElem_cons_succ, List.setIfInBounds_toArray, List.set_cons_zero, List.set_cons_succ]
           refine wpAnyH_ready (rs := [2]) (by kernel_rfl) (by simp) ?_
           refine AllReadyH.cons rfl (fun K hK => ?_) AllReadyH.nil
           go_simp
           refine (heard_pv HPV.out HN0.out hT ⟨id, ae, as_, an, na, new, nc, al⟩ ⟨id, ae, as_, an, ra, rl, rc, al⟩ ⟨rfl, rfl, rfl, rfl, rfl, HSR.out⟩ HR0.out (fun r hr => ⟨(HW0.out r hr).1, HLN.out r hr⟩) (by rw [HNL.out]; exact HRM.out) HLR0.out HLI0.out).mono ?_
           rintro e y1 ⟨E, rfl, hk1, hth⟩
           refine hK.out _ _ ⟨hk1.heap hHeld.1 (fun e => e.2 (.inr (.inr (.inl rfl)))), hk1.heap hHeld.2 (fun e => e.2 (.inr (.inr (.inr (.inl rfl)))))⟩ (fun hHeld1 => ?_)
           clear hK K hHeld
           try simp only [Act.put, List.getElem_toArray, List.getElem_cons_zero, List.getElem_cons_succ, List.setIfInBounds_toArray, List.set_cons_zero, List.set_cons_succ]
           have HTH := Lib.hid hth
           have HK1 := Lib.hid (HK0.out.trans (hk1.mono (fun j _ h => ⟨h.1, fun e => h.2 (.inl e)⟩)))
           have HR1 := Lib.hid (HR0.out.kp hk1 (fun g hg e => e.2 (.inr (.inr (.inr (.inr (.inl hg)))))))
           have HW1' := Lib.hid (fun r (hr : r ∈ new) => (HW0.out r hr).2.kp hk1 (fun g hg e => e.2 (.inr (.inr (.inr (.inr (.inr ⟨r, hr, hg⟩)))))))
           clear hk1 hth HK0 HR0 HW0 HPV HLR0 HLI0 HN0
           refine wpAnyH_ready (rs := [3]) (by kernel_rfl) (by simp) ?_
           refine AllReadyH.cons rfl (fun K hK => ?_) AllReadyH.nil
           go_simp
           refine (num_dr _ _).mono ?_
           rintro e w' ⟨rfl, rfl⟩
           refine hK.out _ _ hHeld1 (fun hHeld2 => ?_)
           clear hK K hHeld1
           try simp only [Act.put, List.getElem_toArray, List.getElem_cons_zero, List.getElem_cons_succ, List.setIfInBounds_toArray, List.set_cons_zero, List.set_cons_succ]
           refine wpAnyH_ready (rs := [6]) (by kernel_rfl) (by simp) ?_
           refine AllReadyH.cons rfl (fun K hK => ?_) AllReadyH.nil
           go_simp
           refine (HTH.out _ (Kp.refl _ _)).mono ?_
           rintro e y2 ⟨rfl, hp2, hk2⟩
           refine hK.out _ _ ⟨hk2.heap hHeld2.1 (fun e => e.2.1 (.inr (.inr (.inl rfl)))), hk2.heap hHeld2.2 (fun e => e.2.1 (.inr (.inr (.inr (.inl rfl)))))⟩ (fun hHeld3 => ?_)
           clear hK K
           try simp only [Act.put, List.getElem_toArray, List.getElem_cons_zero, List.getElem_cons_succ, List.setIfInBounds_toArray, List.set_cons_zero, List.set_cons_succ]
           have hmr : MR w y2 B N (fun j => N j ∨ j = X ∨ j = Z ∨ j = V ∨ blockOf na = some j ∨ ∃ r ∈ new, blockOf r.a = some j) b rb (T + 1) V #[.int .i64 id, .int .i64 ae, .int .i64 as_, .int .i64 an, .slice na new.length nc, .int .i64 al] na new :=
             ⟨hp2, hHeld3.2, HR1.out.kp hk2 (fun g hg e => e.2.1 (.inr (.inr (.inr (.inr (.inl hg)))))), fun r hr => (HW1'.out r hr).kp hk2 (fun g hg e => e.2.1 (.inr (.inr (.inr (.inr (.inr ⟨r, hr, hg⟩)))))), HK1.out.trans (hk2.mono (fun j _ h => ⟨h.1, fun e => h.2.1 (.inl e)⟩))⟩
           have HMR := Lib.hid hmr
           clear hp2 hk2 hmr HR1 HW1' HK1 HTH hHeld2
           refine wpAnyH_take (i := 7) (v := .bool true) rfl (by kernel_rfl) (by kernel_rfl) (by kernel_rfl) (fun _ _ _ h => h) (Or.inl ⟨by rfl, ?_⟩) (by assumption) ?_
           · intro w hSw
             try dsimp only at hSw
             go_simp
             try with_reducible rfl
           try simp only [Act.put, List.getElem_toArray, List.getElem_cons_zero, List.getElem_cons_succ, List.setIfInBounds_toArray, List.set_cons_zero, List.set_cons_succ]
           refine wpAnyH_take (i := 8) (v := ?_) rfl (by kernel_rfl) (by kernel_rfl) (by kernel_rfl) (fun _ _ _ h => h) (Or.inl ⟨by rfl, ?_⟩) (by assumption) ?_
           rotate_left
           · intro w hSw
             try dsimp only at hSw
             go_simp
             try with_reducible rfl
           try simp only [Act.put, List.getElem_toArray, List.getElem_cons_zero, List.getElem_cons_succ, List.setIfInBounds_toArray, List.set_cons_zero, List.set_cons_succ]
           refine wpAnyH_done (by kernel_rfl) ?_ _
           clear hHeld3
           have HNRW := Lib.hid (show ∀ r ∈ new, ∀ g, blockOf r.a = some g → w.heap.size ≤ g ∧ B ≤ g ∧ g ≠ V from fun r hr g hg => by
             have h1 := HNR.out r hr g hg
             have h2 := HXE.out
             exact ⟨by omega, by omega, by omega⟩)
           obtain ⟨n, hn⟩ : ∃ n, n = new.length := ⟨_, rfl⟩
           have HNW := Lib.hid hn
           have hnM : n ≤ 140737488355328 := by have h1 := HRM.out; have h2 := HNL.out; omega
           rw [← hn] at HMR
           clear hn
           go_wp2_with fail
           go_loopw [12] (fun q wr => ∃ i : Nat, q = .int .i64 i ∧ i ≤ n ∧ MR w wr B N (fun j => N j ∨ j = X ∨ j = Z ∨ j = V ∨ blockOf na = some j ∨ ∃ r ∈ new, blockOf r.a = some j) b rb (T + 1) V #[.int .i64 id, .int .i64 ae, .int .i64 as_, .int .i64 an, .slice na n nc, .int .i64 al] na new) (fun q _ => n - (intOf q).toNat)
           case atStart => exact ⟨0, rfl, Nat.zero_le _, HMR.out⟩
           case round =>
             clear HMR
             obtain ⟨i, rfl, hi, hm⟩ := hrel
             have HM := Lib.hid hm
             have v4 := cell_of hm.v 4 (v := .slice na n nc) rfl
             clear hm
             by_cases hlt : i < n
             · obtain ⟨r, hre⟩ : ∃ r, r = new[i]'(by rw [← HNW.out]; exact hlt) := ⟨_, rfl⟩
               have hr1 : new[i]? = some r := by rw [List.getElem?_eq_getElem (by rw [← HNW.out]; exact hlt), hre]
               have hrm : r ∈ new := List.mem_of_getElem? hr1
               have hrv : (new.map RecV.val)[i]? = some r.val := by rw [List.getElem?_map, hr1]; rfl
               have HRV := Lib.hid hrv
               have HRMM := Lib.hid hrm
               have hrl : r.d.length ≤ 140737488355328 := HLN.out r hrm
               obtain ⟨m, hme⟩ : ∃ m, m = r.d.length := ⟨_, rfl⟩
               have HME := Lib.hid hme
               rw [← hme] at hrl
               clear hre hr1 hrm hrv hme
               have hiI : (i : Int) < (n : Int) := by omega
               have hi0 : (0 : Int) ≤ (i : Int) := by omega
               go_wp2_with fail
               go_loopw [13] (fun q wx => ∃ k : Nat, q = .int .i64 k ∧ k ≤ m ∧ MR w wx B N (fun j => N j ∨ j = X ∨ j = Z ∨ j = V ∨ blockOf na = some j ∨ ∃ r ∈ new, blockOf r.a = some j) b rb (T + 1) V #[.int .i64 id, .int .i64 ae, .int .i64 as_, .int .i64 an, .slice na n nc, .int .i64 al] na new) (fun q _ => m - (intOf q).toNat)
               case atStart => exact ⟨0, rfl, Nat.zero_le _, HM.out⟩
               case round =>
                 clear HM v4
                 obtain ⟨k, rfl, hk, hm⟩ := hrel
                 have HM := Lib.hid hm
                 obtain ⟨nb, no, rfl, d1⟩ := hm.r i _ HRV.out
                 have v4 := cell_of hm.v 4 (v := .slice (some ⟨nb, no, none⟩) n nc) rfl
                 have d2 : wr.cell? ⟨nb, no + i, none⟩ = some (.slice r.a m r.c) := by rw [HME.out]; exact d1
                 clear d1
                 by_cases hkl : k < m
                 · obtain ⟨g, o, z, hra, hc, hf⟩ := hm.w r HRMM.out k (by rw [← HME.out]; exact hkl)
                   rw [hra] at d2
                   have hgb := HNRW.out r HRMM.out g (by rw [hra]; rfl)
                   have HG := Lib.hid hgb
                   have hgV : V ≠ g := fun e => hgb.2.2 e.symm
                   have HN4 := Lib.hid (show ∃ r ∈ new, blockOf r.a = some g from ⟨r, HRMM.out, by rw [hra]; rfl⟩)
                   have hkI : (k : Int) < (m : Int) := by omega
                   have hk0 : (0 : Int) ≤ (k : Int) := by omega
                   clear hm hra hgb
                   go_upto_region 23 with fail
                   refine wp_region_held_drew (S := fun w' => w'.cell? ⟨V, 4, none⟩ = some (.slice (some ⟨nb, no, none⟩) n nc) ∧ w'.cell? ⟨nb, no + i, none⟩ = some (.slice (some ⟨g, o, none⟩) m r.c)) (by kernel_rfl) ⟨v4, d2⟩ (fun hHeld => ?_)
                   have hc0 : wr.drew.cell? ⟨g, o + k, none⟩ = some (.int .u8 z) := hc
                   have hf0 : wr.drew.frozen? ⟨g, o + k, none⟩ = false := hf
                   refine wpAnyH_take (i := 0) (v := ?_) rfl (by kernel_rfl) (by kernel_rfl) (by kernel_rfl) (fun _ _ _ h => h) (Or.inl ⟨by rfl, ?_⟩) (by assumption) ?_
                   rotate_left
                   · intro w hSw
                     try dsimp only at hSw
                     go_simp
                     try with_reducible rfl
                   try simp only [Act.put, List.getElem_toArray, List.getElem_cons_zero, List.getElem_cons_succ, List.setIfInBounds_toArray, List.set_cons_zero, List.set_cons_succ]
                   refine wpAnyH_take (i := 1) (v := .slice (some ⟨nb, no, none⟩) n nc) rfl (by kernel_rfl) (by kernel_rfl) (by kernel_rfl) (fun _ _ _ h => h) (Or.inl ⟨by rfl, ?_⟩) (by assumption) ?_
                   · intro w hSw
                     have hc1 := hSw.1
                     try dsimp only at hSw
                     go_simp
                     try with_reducible rfl
                   try simp only [Act.put, List.getElem_toArray, List.getElem_cons_zero, List.getElem_cons_succ, List.setIfInBounds_toArray, List.set_cons_zero, List.set_cons_succ]
                   refine wpAnyH_take (i := 2) (v := ?_) rfl (by kernel_rfl) (by kernel_rfl) (by kernel_rfl) (fun _ _ _ h => h) (Or.inl ⟨by rfl, ?_⟩) (by assumption) ?_
                   rotate_left
                   · intro w hSw
                     try dsimp only at hSw
                     go_simp
                     try with_reducible rfl
                   try simp only [Act.put, List.getElem_toArray, List.getElem_cons_zero, List.getElem_cons_succ, List.setIfInBounds_toArray, List.set_cons_zero, List.set_cons_succ]
                   refine wpAnyH_take (i := 3) (v := ?_) rfl (by kernel_rfl) (by kernel_rfl) (by kernel_rfl) (fun _ _ _ h => h) (Or.inl ⟨by rfl, ?_⟩) (by assumption) ?_
                   rotate_left
                   · intro w hSw
                     try dsimp only at hSw
                     go_simp
                     try with_reducible rfl
                   try simp only [Act.put, List.getElem_toArray, List.getElem_cons_zero, List.getElem_cons_succ, List.setIfInBounds_toArray, List.set_cons_zero, List.set_cons_succ]
                   refine wpAnyH_take (i := 4) (v := .slice (some ⟨g, o, none⟩) m r.c) rfl (by kernel_rfl) (by kernel_rfl) (by kernel_rfl) (fun _ _ _ h => h) (Or.inl ⟨by rfl, ?_⟩) (by assumption) ?_
                   · intro w hSw
                     have hc2 := hSw.2
                     try dsimp only at hSw
                     go_simp
                     try with_reducible rfl
                   try simp only [Act.put, List.getElem_toArray, List.getElem_cons_zero, List.getElem_cons_succ, List.setIfInBounds_toArray, List.set_cons_zero, List.set_cons_succ]
                   refine wpAnyH_take (i := 5) (v := ?_) rfl (by kernel_rfl) (by kernel_rfl) (by kernel_rfl) (fun _ _ _ h => h) (Or.inl ⟨by rfl, ?_⟩) (by assumption) ?_
                   rotate_left
                   · intro w hSw
                     try dsimp only at hSw
                     go_simp
                     try with_reducible rfl
                   try simp only [Act.put, List.getElem_toArray, List.getElem_cons_zero, List.getElem_cons_succ, List.setIfInBounds_toArray, List.set_cons_zero, List.set_cons_succ]
                   refine wpAnyH_take (i := 6) (v := ?_) rfl (by kernel_rfl) (by kernel_rfl) (by kernel_rfl) (fun _ _ _ h => h) (Or.inl ⟨by rfl, ?_⟩) (by assumption) ?_
                   rotate_left
                   · intro w hSw
                     try dsimp only at hSw
                     go_simp
                     try with_reducible rfl
                   try simp only [Act.put, List.getElem_toArray, List.getElem_cons_zero, List.getElem_cons_succ, List.setIfInBounds_toArray, List.set_cons_zero, List.set_cons_succ]
                   refine wpAnyH_take (i := 7) (v := .slice (some ⟨nb, no, none⟩) n nc) rfl (by kernel_rfl) (by kernel_rfl) (by kernel_rfl) (fun _ _ _ h => h) (Or.inl ⟨by rfl, ?_⟩) (by assumption) ?_
                   · intro w hSw
                     have hc1 := hSw.1
                     try dsimp only at hSw
                     go_simp
                     try with_reducible rfl
                   try simp only [Act.put, List.getElem_toArray, List.getElem_cons_zero, List.getElem_cons_succ, List.setIfInBounds_toArray, List.set_cons_zero, List.set_cons_succ]
                   refine wpAnyH_take (i := 8) (v := ?_) rfl (by kernel_rfl) (by kernel_rfl) (by kernel_rfl) (fun _ _ _ h => h) (Or.inl ⟨by rfl, ?_⟩) (by assumption) ?_
                   rotate_left
                   · intro w hSw
                     try dsimp only at hSw
                     go_simp
                     try with_reducible rfl
                   try simp only [Act.put, List.getElem_toArray, List.getElem_cons_zero, List.getElem_cons_succ, List.setIfInBounds_toArray, List.set_cons_zero, List.set_cons_succ]
                   refine wpAnyH_take (i := 9) (v := ?_) rfl (by kernel_rfl) (by kernel_rfl) (by kernel_rfl) (fun _ _ _ h => h) (Or.inl ⟨by rfl, ?_⟩) (by assumption) ?_
                   rotate_left
                   · intro w hSw
                     try dsimp only at hSw
                     go_simp
                     try with_reducible rfl
                   try simp only [Act.put, List.getElem_toArray, List.getElem_cons_zero, List.getElem_cons_succ, List.setIfInBounds_toArray, List.set_cons_zero, List.set_cons_succ]
                   refine wpAnyH_take (i := 10) (v := .slice (some ⟨g, o, none⟩) m r.c) rfl (by kernel_rfl) (by kernel_rfl) (by kernel_rfl) (fun _ _ _ h => h) (Or.inl ⟨by rfl, ?_⟩) (by assumption) ?_
                   · intro w hSw
                     have hc2 := hSw.2
                     try dsimp only at hSw
                     go_simp
                     try with_reducible rfl
                   try simp only [Act.put, List.getElem_toArray, List.getElem_cons_zero, List.getElem_cons_succ, List.setIfInBounds_toArray, List.set_cons_zero, List.set_cons_succ]
                   refine wpAnyH_take (i := 11) (v := ?_) rfl (by kernel_rfl) (by kernel_rfl) (by kernel_rfl) (fun _ _ _ h => h) (Or.inl ⟨by rfl, ?_⟩) (by assumption) ?_
                   rotate_left
                   · intro w hSw
                     try dsimp only at hSw
                     go_simp
                     try with_reducible rfl
                   try simp only [Act.put, List.getElem_toArray, List.getElem_cons_zero, List.getElem_cons_succ, List.setIfInBounds_toArray, List.set_cons_zero, List.set_cons_succ]
                   refine wpAnyH_take (i := 12) (v := ?_) rfl (by kernel_rfl) (by kernel_rfl) (by kernel_rfl) (fun _ _ _ h => h) (Or.inl ⟨by rfl, ?_⟩) (by assumption) ?_
                   rotate_left
                   · intro w hSw
                     try dsimp only at hSw
                     go_simp
                     try with_reducible rfl
                   try simp only [Act.put, List.getElem_toArray, List.getElem_cons_zero, List.getElem_cons_succ, List.setIfInBounds_toArray, List.set_cons_zero, List.set_cons_succ]
                   refine wpAnyH_ready (rs := [13]) (by kernel_rfl) (by simp) ?_
                   refine AllReadyH.cons rfl (fun K hK => ?_) AllReadyH.nil
                   go_simp
                   refine hK.out _ _ hHeld (fun hHeld1 => ?_)
                   clear hK K
                   try simp only [Act.put, List.getElem_toArray, List.getElem_cons_zero, List.getElem_cons_succ, List.setIfInBounds_toArray, List.set_cons_zero, List.set_cons_succ]
                   refine wpAnyH_take (i := 14) (v := ?_) rfl (by kernel_rfl) (by kernel_rfl) (by kernel_rfl) (fun _ _ _ h => h) (Or.inl ⟨by rfl, ?_⟩) (by assumption) ?_
                   rotate_left
                   · intro w hSw
                     try dsimp only at hSw
                     go_simp
                     try with_reducible rfl
                   try simp only [Act.put, List.getElem_toArray, List.getElem_cons_zero, List.getElem_cons_succ, List.setIfInBounds_toArray, List.set_cons_zero, List.set_cons_succ]
                   refine wpAnyH_take (i := 15) (v := ?_) rfl (by kernel_rfl) (by kernel_rfl) (by kernel_rfl) (fun _ _ _ h => h) (Or.inl ⟨by rfl, ?_⟩) (by assumption) ?_
                   rotate_left
                   · intro w hSw
                     try dsimp only at hSw
                     go_simp
                     try with_reducible rfl
                   try simp only [Act.put, List.getElem_toArray, List.getElem_cons_zero, List.getElem_cons_succ, List.setIfInBounds_toArray, List.set_cons_zero, List.set_cons_succ]
                   refine wpAnyH_ready (rs := [16]) (by kernel_rfl) (by simp) ?_
                   refine AllReadyH.cons rfl (fun K hK => ?_) AllReadyH.nil
                   go_simp
                   refine hK.out _ _ ⟨far_cell hHeld1.1 hgV, keep_slice hc0 hHeld1.2⟩ (fun hHeld2 => ?_)
                   clear hK K
                   try simp only [Act.put, List.getElem_toArray, List.getElem_cons_zero, List.getElem_cons_succ, List.setIfInBounds_toArray, List.set_cons_zero, List.set_cons_succ]
                   refine wpAnyH_done (by kernel_rfl) ?_ _
                   have HM4 := Lib.hid ((HM.out.no ((Kp.refl _ _).drew)).store hc0 (.inr (.inr (.inr (.inr (.inr HN4.out))))) HG.out.2.1 HG.out.1 HG.out.2.2 (IntKind.u8.wrap (z + 1)))
                   clear hc hf hc0 hf0 hHeld hHeld1 hHeld2 d2 v4 HM
                   go_wp2_with fail
                   go_roundw
                   case rel => exact ⟨k + 1, by go_num, by omega, HM4.out⟩
                   case measure => simp [intOf]; omega
                 · obtain rfl : k = m := by omega
                   clear hm
                   go_wp2_with fail
                   go_roundw
                   case rel => exact ⟨i + 1, by go_num, by omega, HM.out⟩
                   case measure => simp [intOf]; omega
             · obtain rfl : i = n := by omega
               go_wp2_with fail
               go_meet
               exact ⟨rfl, HM.out.p.other (fun j h => .inl (.inl h)), HM.out.k⟩)
      · by_cases h2 : kind = 2
        · subst h2
          clear h0 h15
          obtain ⟨R, R', v, u, hp⟩ := HP.out
          have HPV := Lib.hid hp
          clear hp
          go_wp2_with fail
          refine (tick_pv HPV.out HN1.out hT).mono ?_
          rintro e w2 ⟨rfl, hk2, hth⟩
          have HTH := Lib.hid hth
          have HK2 := Lib.hid ((HKA.out.mono (S' := fun j => B ≤ j ∧ ¬ N j) (fun _ _ h => h.elim)).trans (hk2.mono (fun j _ h => ⟨h.1, fun e => h.2 (.inl e)⟩)))
          clear hk2 hth
          go_wp2_with (go_at_call 10; refine (num_dr _ _).mono ?_; rintro e w' ⟨rfl, rfl⟩)
          refine (HTH.out _ (Kp.refl _ _)).mono ?_
          rintro e w3 ⟨rfl, hp3, hk3⟩
          have HP3 := Lib.hid (hp3.other (N' := N) (fun j h => .inl (.inl h)))
          have HK3 := Lib.hid (HK2.out.trans (hk3.mono (fun j _ h => ⟨h.1, fun e => h.2.1 (.inl e)⟩)))
          clear hp3 hk3 HTH
          go_wp2_with fail
          go_meet
          exact ⟨rfl, HP3.out, HK3.out⟩
        · by_cases h3 : kind = 3
          · subst h3
            clear h0 h15 h2
            obtain ⟨R, R', v, u, hp⟩ := HP.out
            have HPV := Lib.hid hp
            clear hp
            go_wp2_with fail
            refine (calls_pv HPV.out HN1.out hT).mono ?_
            rintro e w2 ⟨la, l, lc, rfl, hlT, hk2, hth⟩
            have HK2 := Lib.hid ((HKA.out.mono (S' := fun j => B ≤ j ∧ ¬ N j) (fun _ _ h => h.elim)).trans (hk2.mono (fun j _ h => ⟨h.1, fun e => h.2 (.inl e)⟩)))
            have HTH := Lib.hid hth
            clear hk2 hth
            go_wp2_with fail
            refine (HTH.out _ (Kp.refl _ _)).mono ?_
            rintro e w3 ⟨⟨la', l', lc', rfl, hll, ha, ha', hsc⟩, hp3, hk3⟩
            have HP3 := Lib.hid (hp3.other (N' := N) (fun j h => .inl (.inl h)))
            have HK3 := Lib.hid (HK2.out.trans (hk3.mono (fun j _ h => ⟨h.1, fun e => h.2.1 (.inl e)⟩)))
            have HLL := Lib.hid hll
            have HA := Lib.hid ha
            have HA' := Lib.hid ha'
            have HSC := Lib.hid hsc
            obtain ⟨n, hn⟩ : ∃ n, n = l.length := ⟨_, rfl⟩
            have HNL := Lib.hid hn
            rw [← hll, ← hn]
            rw [← hn] at hlT
            clear hp3 hk3 hll ha ha' hsc hn HTH HK2
            go_wp2_with fail
            go_loopw [7, 16] (fun t q wr => ∃ i : Nat, t = .bool true ∧ q = .int .i64 i ∧ i ≤ n ∧ Kp (fun _ => False) w3 wr) (fun _ q _ => n - (intOf q).toNat)
            case atStart => exact ⟨0, rfl, rfl, Nat.zero_le _, Kp.refl _ _⟩
            case round =>
              obtain ⟨i, rfl, rfl, hi, hk⟩ := hrel
              have HKR := Lib.hid hk
              clear hk
              by_cases hlt : i < n
              · obtain ⟨p, hpe⟩ : ∃ p, p = l[i]'(by rw [← HNL.out]; exact hlt) := ⟨_, rfl⟩
                obtain ⟨q, hqe⟩ : ∃ q, q = l'[i]'(by rw [← HLL.out, ← HNL.out]; exact hlt) := ⟨_, rfl⟩
                have hp1 : l[i]? = some p := by rw [List.getElem?_eq_getElem (by rw [← HNL.out]; exact hlt), hpe]
                have hq1 : l'[i]? = some q := by rw [List.getElem?_eq_getElem (by rw [← HLL.out, ← HNL.out]; exact hlt), hqe]
                obtain ⟨hsame, hrp, hrq⟩ := HSC.out i p q hp1 hq1
                obtain ⟨g, rfl, hcg⟩ := HA.out i p hp1
                obtain ⟨g', rfl, hcg'⟩ := HA'.out i q hq1
                have RP := Lib.hid (hrp.no HKR.out)
                have RQ := Lib.hid (hrq.no HKR.out)
                obtain ⟨pto, pid, pki, pss, psq, pfr, pmo, pa, pdl, pc⟩ := p
                obtain ⟨qto, qid, qki, qss, qsq, qfr, qmo, qa, qdl, qc⟩ := q
                obtain ⟨s1, s2, s3, s4, s5, s6, s7, s8⟩ := hsame
                dsimp only at s1 s2 s3 s4 s5 s6 s7 s8 hrp hrq RP RQ
                subst s1 s2 s3 s4 s5 s6 s7 s8
                have hR1 : wr.rangeAt g (i * 8) [Value.int .i64 pto, .int .i64 pid, .int .i64 pki, .int .i64 pss, .int .i64 psq, .int .i64 pfr, .int .i64 pmo, .slice pa pdl.length pc] := fun j x hx => by
                  have hc := hcg j x hx
                  exact (HKR.out.cell (p := ⟨g, i * 8 + j, none⟩) (World.block_lt_of_cell? w3 _ hc) (fun h => h)).trans hc
                have hR2 : wr.rangeAt g' (i * 8) [Value.int .i64 pto, .int .i64 pid, .int .i64 pki, .int .i64 pss, .int .i64 psq, .int .i64 pfr, .int .i64 pmo, .slice qa pdl.length qc] := fun j x hx => by
                  have hc := hcg' j x hx
                  exact (HKR.out.cell (p := ⟨g', i * 8 + j, none⟩) (World.block_lt_of_cell? w3 _ hc) (fun h => h)).trans hc
                have hiI : (i : Int) < (n : Int) := by omega
                have hi0 : (0 : Int) ≤ (i : Int) := by omega
                clear hpe hqe hp1 hq1 hrp hrq hcg hcg'
                go_upto_region 34 with fail
                refine wp_region_held_drew (S := fun w' => w'.rangeAt g (i * 8) [Value.int .i64 pto, .int .i64 pid, .int .i64 pki, .int .i64 pss, .int .i64 psq, .int .i64 pfr, .int .i64 pmo, .slice pa pdl.length pc] ∧ w'.rangeAt g' (i * 8) [Value.int .i64 pto, .int .i64 pid, .int .i64 pki, .int .i64 pss, .int .i64 psq, .int .i64 pfr, .int .i64 pmo, .slice qa pdl.length qc]) (by kernel_rfl) ⟨hR1, hR2⟩ (fun hHeld => ?_)
                refine wpAnyH_take (i := 0) (v := ?_) rfl (by kernel_rfl) (by kernel_rfl) (by kernel_rfl) (fun _ _ _ h => h) (Or.inl ⟨by rfl, ?_⟩) (by assumption) ?_
                rotate_left
                · intro w hSw
                  try dsimp only at hSw
                  go_simp
                  try with_reducible rfl
                try simp only [Act.put, List.getElem_toArray, List.getElem_cons_zero, List.getElem_cons_succ, List.setIfInBounds_toArray, List.set_cons_zero, List.set_cons_succ]
                refine wpAnyH_take (i := 1) (v := ?_) rfl (by kernel_rfl) (by kernel_rfl) (by kernel_rfl) (fun _ _ _ h => h) (Or.inl ⟨by rfl, ?_⟩) (by assumption) ?_
                rotate_left
                · intro w hSw
                  try dsimp only at hSw
                  go_simp
                  try with_reducible rfl
                try simp only [Act.put, List.getElem_toArray, List.getElem_cons_zero, List.getElem_cons_succ, List.setIfInBounds_toArray, List.set_cons_zero, List.set_cons_succ]
                refine wpAnyH_take (i := 2) (v := ?_) rfl (by kernel_rfl) (by kernel_rfl) (by kernel_rfl) (fun _ _ _ h => h) (Or.inl ⟨by rfl, ?_⟩) (by assumption) ?_
                rotate_left
                · intro w hSw
                  try dsimp only at hSw
                  go_simp
                  try with_reducible rfl
                try simp only [Act.put, List.getElem_toArray, List.getElem_cons_zero, List.getElem_cons_succ, List.setIfInBounds_toArray, List.set_cons_zero, List.set_cons_succ]
                refine wpAnyH_take (i := 3) (v := .agg ([Value.int .i64 pto, .int .i64 pid, .int .i64 pki, .int .i64 pss, .int .i64 psq, .int .i64 pfr, .int .i64 pmo, .slice pa pdl.length pc] : List Value).toArray) rfl (by kernel_rfl) (by kernel_rfl) (by kernel_rfl) (fun _ _ _ h => h) (yieldsIf_load_mid (by rfl) 40 _ rfl g (i * 8) rfl [Value.int .i64 pto, .int .i64 pid, .int .i64 pki, .int .i64 pss, .int .i64 psq, .int .i64 pfr, .int .i64 pmo, .slice pa pdl.length pc] _ (fun w hw => hw.1) Try.underlying40 rfl (by kernel_rfl)) (by assumption) ?_
                try simp only [Act.put, List.getElem_toArray, List.getElem_cons_zero, List.getElem_cons_succ, List.setIfInBounds_toArray, List.set_cons_zero, List.set_cons_succ]
                refine wpAnyH_take (i := 4) (v := ?_) rfl (by kernel_rfl) (by kernel_rfl) (by kernel_rfl) (fun _ _ _ h => h) (Or.inl ⟨by rfl, ?_⟩) (by assumption) ?_
                rotate_left
                · intro w hSw
                  try dsimp only at hSw
                  go_simp
                  try with_reducible rfl
                try simp only [Act.put, List.getElem_toArray, List.getElem_cons_zero, List.getElem_cons_succ, List.setIfInBounds_toArray, List.set_cons_zero, List.set_cons_succ]
                refine wpAnyH_take (i := 5) (v := ?_) rfl (by kernel_rfl) (by kernel_rfl) (by kernel_rfl) (fun _ _ _ h => h) (Or.inl ⟨by rfl, ?_⟩) (by assumption) ?_
                rotate_left
                · intro w hSw
                  try dsimp only at hSw
                  go_simp
                  try with_reducible rfl
                try simp only [Act.put, List.getElem_toArray, List.getElem_cons_zero, List.getElem_cons_succ, List.setIfInBounds_toArray, List.set_cons_zero, List.set_cons_succ]
                refine wpAnyH_take (i := 6) (v := ?_) rfl (by kernel_rfl) (by kernel_rfl) (by kernel_rfl) (fun _ _ _ h => h) (Or.inl ⟨by rfl, ?_⟩) (by assumption) ?_
                rotate_left
                · intro w hSw
                  try dsimp only at hSw
                  go_simp
                  try with_reducible rfl
                try simp only [Act.put, List.getElem_toArray, List.getElem_cons_zero, List.getElem_cons_succ, List.setIfInBounds_toArray, List.set_cons_zero, List.set_cons_succ]
                refine wpAnyH_take (i := 7) (v := .agg ([Value.int .i64 pto, .int .i64 pid, .int .i64 pki, .int .i64 pss, .int .i64 psq, .int .i64 pfr, .int .i64 pmo, .slice qa pdl.length qc] : List Value).toArray) rfl (by kernel_rfl) (by kernel_rfl) (by kernel_rfl) (fun _ _ _ h => h) (yieldsIf_load_mid (by rfl) 82 _ rfl g' (i * 8) rfl [Value.int .i64 pto, .int .i64 pid, .int .i64 pki, .int .i64 pss, .int .i64 psq, .int .i64 pfr, .int .i64 pmo, .slice qa pdl.length qc] _ (fun w hw => hw.2) Try.underlying82 rfl (by kernel_rfl)) (by assumption) ?_
                try simp only [Act.put, List.getElem_toArray, List.getElem_cons_zero, List.getElem_cons_succ, List.setIfInBounds_toArray, List.set_cons_zero, List.set_cons_succ]
                refine wpAnyH_ready (rs := [8]) (by kernel_rfl) (by simp) ?_
                refine AllReadyH.cons rfl (fun K hK => ?_) AllReadyH.nil
                go_simp
                refine (same_call ⟨pto, pid, pki, pss, psq, pfr, pmo, pa, pdl, pc⟩ qa qc (RP.out.no ((Kp.refl _ _).drew)) (RQ.out.no ((Kp.refl _ _).drew))).mono ?_
                rintro e w4 ⟨rfl, hk4⟩
                refine hK.out _ _ ⟨fun j x hx => ?_, fun j x hx => ?_⟩ (fun hHeld2 => ?_)
                · have hc := hHeld.1 j x hx
                  exact (hk4.cell (p := ⟨g, i * 8 + j, none⟩) (World.block_lt_of_cell? _ _ hc) (fun h => h)).trans hc
                · have hc := hHeld.2 j x hx
                  exact (hk4.cell (p := ⟨g', i * 8 + j, none⟩) (World.block_lt_of_cell? _ _ hc) (fun h => h)).trans hc
                clear hK K
                try simp only [Act.put, List.getElem_toArray, List.getElem_cons_zero, List.getElem_cons_succ, List.setIfInBounds_toArray, List.set_cons_zero, List.set_cons_succ]
                refine wpAnyH_take (i := 9) (v := ?_) rfl (by kernel_rfl) (by kernel_rfl) (by kernel_rfl) (fun _ _ _ h => h) (Or.inl ⟨by rfl, ?_⟩) (by assumption) ?_
                rotate_left
                · intro w hSw
                  try dsimp only at hSw
                  go_simp
                  try with_reducible rfl
                try simp only [Act.put, List.getElem_toArray, List.getElem_cons_zero, List.getElem_cons_succ, List.setIfInBounds_toArray, List.set_cons_zero, List.set_cons_succ]
                refine wpAnyH_done (by kernel_rfl) ?_ _
                have HK4 := Lib.hid ((HKR.out.drew).trans hk4)
                clear hk4
                go_wp2_with fail
                go_roundw
                case rel => exact ⟨i + 1, rfl, by go_num, by omega, HK4.out⟩
                case measure => simp [intOf]; omega
              · obtain rfl : i = n := by omega
                go_wp2_with fail
                go_meet
                exact ⟨rfl, HP3.out.no HKR.out, HK3.out.trans (HKR.out.mono (fun _ _ h => h.elim))⟩
          · by_cases h4 : kind = 4
            · subst h4
              clear h0 h15 h2 h3
              obtain ⟨R, R', v, u, hp⟩ := HP.out
              have HPV := Lib.hid hp
              clear hp
              go_wp2_with fail
              refine (done_pv HPV.out HN1.out hT).mono ?_
              rintro e w2 ⟨⟨xk, xf, xm, xa, xl, xc⟩, ⟨yi, ye, ys, yn, ya, yl, yc, yd⟩, t, rfl, hk2, hth⟩
              have HK2 := Lib.hid ((HKA.out.mono (S' := fun j => B ≤ j ∧ ¬ N j) (fun _ _ h => h.elim)).trans (hk2.mono (fun j _ h => ⟨h.1, fun e => h.2 (.inl e)⟩)))
              have HTH := Lib.hid hth
              have hk2s := hk2.size
              clear hk2 hth
              unfold OrdV.cells AnsV.cells
              dsimp only
              go_wp2_with fail
              have hz := ((Kp.refl (fun _ => False) w2).alloc (.cells #[.int .i64 xk, .int .i64 xf, .int .i64 xm, .slice xa xl.length xc] 32)).alloc (.cells #[.int .i64 yi, .int .i64 ye, .int .i64 ys, .int .i64 yn, .slice ya yl.length yc, .int .i64 yd] 47)
              have hz1 : ((w2.alloc (.cells #[.int .i64 xk, .int .i64 xf, .int .i64 xm, .slice xa xl.length xc] 32)).alloc (.cells #[.int .i64 yi, .int .i64 ye, .int .i64 ys, .int .i64 yn, .slice ya yl.length yc, .int .i64 yd] 47)).heap[w2.heap.size]? = some (.cells #[.int .i64 xk, .int .i64 xf, .int .i64 xm, .slice xa xl.length xc] 32 (0, 0)) := heap_old _ (heap_new w2 _)
              have hz2 : ((w2.alloc (.cells #[.int .i64 xk, .int .i64 xf, .int .i64 xm, .slice xa xl.length xc] 32)).alloc (.cells #[.int .i64 yi, .int .i64 ye, .int .i64 ys, .int .i64 yn, .slice ya yl.length yc, .int .i64 yd] 47)).heap[w2.heap.size + 1]? = some (.cells #[.int .i64 yi, .int .i64 ye, .int .i64 ys, .int .i64 yn, .slice ya yl.length yc, .int .i64 yd] 47 (0, 0)) := by
                have h := heap_new (w2.alloc (.cells #[.int .i64 xk, .int .i64 xf, .int .i64 xm, .slice xa xl.length xc] 32)) (.cells #[.int .i64 yi, .int .i64 ye, .int .i64 ys, .int .i64 yn, .slice ya yl.length yc, .int .i64 yd] 47)
                simpa using h
              refine (HTH.out _ hz).mono ?_
              rintro e w3 ⟨⟨⟨pk, pf, pm, pa, pl, pc⟩, ⟨qi, qe, qs, qn, qa, ql, qc, qd⟩, rfl, ⟨⟨g1, g2, g3, g4⟩, r1, r2, ⟨g5, g6, g7, g8, g9, g10⟩, r3, r4, r5, r6, g11⟩⟩, hp3, hk3⟩
              dsimp only at g1 g2 g3 g4 g5 g6 g7 g8 g9 g10 r1 r2 r3 r4 r5 r6 g11
              subst g1 g2 g3 g4 g5 g6 g7 g8 g9
              unfold OrdV.cells AnsV.rcells
              dsimp only
              have hs1 := HN1.out
              have hP := hk3.heap hz1 (fun e => by have := e.2.2; have := hk2s; omega)
              have hQ := hk3.heap hz2 (fun e => by have := e.2.2; have := hk2s; omega)
              have hq3 := lt_of_block hQ
              have hzz := ((Kp.refl (fun _ => False) w3).alloc (.cells #[.int .i64 xk, .int .i64 xf, .int .i64 xm, .slice pa xl.length pc] 54)).alloc (.cells #[.int .i64 yi, .int .i64 ye, .int .i64 ys, .int .i64 yn, .int .i64 yd, .slice qa ql.length qc] 56)
              have hU : ((w3.alloc (.cells #[.int .i64 xk, .int .i64 xf, .int .i64 xm, .slice pa xl.length pc] 54)).alloc (.cells #[.int .i64 yi, .int .i64 ye, .int .i64 ys, .int .i64 yn, .int .i64 yd, .slice qa ql.length qc] 56)).heap[w3.heap.size]? = some (.cells #[.int .i64 xk, .int .i64 xf, .int .i64 xm, .slice pa xl.length pc] 54 (0, 0)) := heap_old _ (heap_new w3 _)
              have hV : ((w3.alloc (.cells #[.int .i64 xk, .int .i64 xf, .int .i64 xm, .slice pa xl.length pc] 54)).alloc (.cells #[.int .i64 yi, .int .i64 ye, .int .i64 ys, .int .i64 yn, .int .i64 yd, .slice qa ql.length qc] 56)).heap[w3.heap.size + 1]? = some (.cells #[.int .i64 yi, .int .i64 ye, .int .i64 ys, .int .i64 yn, .int .i64 yd, .slice qa ql.length qc] 56 (0, 0)) := by
                have h := heap_new (w3.alloc (.cells #[.int .i64 xk, .int .i64 xf, .int .i64 xm, .slice pa xl.length pc] 54)) (.cells #[.int .i64 yi, .int .i64 ye, .int .i64 ys, .int .i64 yn, .int .i64 yd, .slice qa ql.length qc] 56)
                simpa using h
              have HU := Lib.hid hU
              have HV := Lib.hid hV
              have HPP := Lib.hid (hzz.heap hP (fun h => h))
              have HQQ := Lib.hid (hzz.heap hQ (fun h => h))
              have HP3 := Lib.hid ((hp3.other (N' := N) (fun j h => .inl (.inl h))).no hzz)
              have HK3 := Lib.hid ((HK2.out.andThen (hz.mono (S' := fun j => B ≤ j ∧ ¬ N j) (fun _ _ h => h.elim)) (fun _ _ h => h)).trans ((hk3.mono (fun j _ h => ⟨h.1, fun e => h.2.1 (.inl e)⟩)).trans (hzz.mono (fun _ _ h => h.elim))))
              have R1 := Lib.hid (r1.no hzz)
              have R2 := Lib.hid (r2.no hzz)
              have R3 := Lib.hid (r3.no hzz)
              have R4 := Lib.hid (r4.no hzz)
              have R5 := Lib.hid (fun r h => (r5 r h).no hzz)
              have R6 := Lib.hid (fun r h => (r6 r h).no hzz)
              have G10 := Lib.hid g10
              have G11 := Lib.hid g11
              obtain ⟨P, hPe⟩ : ∃ P, P = w2.heap.size := ⟨_, rfl⟩
              rw [← hPe] at HPP HQQ ⊢
              clear r1 r2 r3 r4 r5 r6 g10 g11 hp3 hk3 hP hQ hU hV hzz hz hz1 hz2 HTH hPe hs1 hk2s
              go_upto_region 38 with fail
              generalize ((w3.alloc (.cells #[.int .i64 xk, .int .i64 xf, .int .i64 xm, .slice pa xl.length pc] 54)).alloc (.cells #[.int .i64 yi, .int .i64 ye, .int .i64 ys, .int .i64 yn, .int .i64 yd, .slice qa ql.length qc] 56)) = w4 at HU HV HPP HQQ HP3 HK3 R1 R2 R3 R4 R5 R6 ⊢
              generalize w3.heap.size = U at HU HV ⊢
              have l0 := cell_of HPP.out 0 (v := .int .i64 xk) rfl
              have l1 := cell_of HPP.out 1 (v := .int .i64 xf) rfl
              have l2 := cell_of HPP.out 2 (v := .int .i64 xm) rfl
              have l3 := cell_of HPP.out 3 (v := .slice xa xl.length xc) rfl
              have m0 := cell_of HU.out 0 (v := .int .i64 xk) rfl
              have m1 := cell_of HU.out 1 (v := .int .i64 xf) rfl
              have m2 := cell_of HU.out 2 (v := .int .i64 xm) rfl
              have m3 := cell_of HU.out 3 (v := .slice pa xl.length pc) rfl
              go_wp2_with fail
              refine (same_order xk xf xm xl xa pa xc pc R1.out R2.out).mono ?_
              rintro e w5 ⟨rfl, hk5⟩
              clear l0 l1 l2 l3 m0 m1 m2 m3
              have hq5 := hk5.heap HQQ.out (fun h => h)
              have hv5 := hk5.heap HV.out (fun h => h)
              have l0 := cell_of hq5 0 (v := .int .i64 yi) rfl
              have l1 := cell_of hq5 1 (v := .int .i64 ye) rfl
              have l2 := cell_of hq5 2 (v := .int .i64 ys) rfl
              have l3 := cell_of hq5 3 (v := .int .i64 yn) rfl
              have l4 := cell_of hq5 4 (v := .slice ya yl.length yc) rfl
              have l5 := cell_of hq5 5 (v := .int .i64 yd) rfl
              have m0 := cell_of hv5 0 (v := .int .i64 yi) rfl
              have m1 := cell_of hv5 1 (v := .int .i64 ye) rfl
              have m2 := cell_of hv5 2 (v := .int .i64 ys) rfl
              have m3 := cell_of hv5 3 (v := .int .i64 yn) rfl
              have m4 := cell_of hv5 4 (v := .int .i64 yd) rfl
              have m5 := cell_of hv5 5 (v := .slice qa ql.length qc) rfl
              have HK5 := Lib.hid hk5
              clear hq5 hv5 hk5
              go_wp2_with fail
              refine (same_answer yi ye ys yn yd yl ql ya qa yc qc G10.out (R3.out.no HK5.out) (R4.out.no HK5.out) (fun r h => (R5.out r h).no HK5.out) (fun r h => (R6.out r h).no HK5.out) G11.out).mono ?_
              rintro e w6 ⟨rfl, hk6⟩
              have HK6 := Lib.hid (HK5.out.trans hk6)
              clear l0 l1 l2 l3 l4 l5 m0 m1 m2 m3 m4 m5 hk6
              go_wp2_with fail
              go_meet
              exact ⟨rfl, HP3.out.no HK6.out, HK3.out.trans (HK6.out.mono (fun _ _ h => h.elim))⟩
            · have b0 : (kind == 0) = false := by simpa using h0
              have b1 : (kind == 1) = false := by simp; omega
              have b5 : (kind == 5) = false := by simp; omega
              have b2 : (kind == 2) = false := by simpa using h2
              have b3 : (kind == 3) = false := by simpa using h3
              have b4 : (kind == 4) = false := by simpa using h4
              clear h0 h15 h2 h3 h4
              go_wp2_with fail
              go_meet
              exact ⟨rfl, (HP.out.other (fun j h => .inl (.inl h))).up, HKA.out.mono (fun _ _ h => h.elim)⟩
  case rest =>
    obtain ⟨rfl, hp, hk⟩ := hcut
    clear HP HX HKA HN1
    obtain ⟨R, R', v, u, hp⟩ := hp
    have HPV := Lib.hid hp
    have HK := Lib.hid hk
    have c8 : wc.cell? ⟨rb, 8, none⟩ = some (.int .i64 v.state) := by rw [hp.s.state]; exact cell_of hp.r.blk 8 rfl
    have c3 : wc.cell? ⟨rb, 3, none⟩ = some (.int .i64 v.session) := by rw [hp.s.session]; exact cell_of hp.r.blk 3 rfl
    have c4 : wc.cell? ⟨rb, 4, none⟩ = some (.int .i64 v.seq) := by rw [hp.s.seq]; exact cell_of hp.r.blk 4 rfl
    have c5 : wc.cell? ⟨rb, 5, none⟩ = some (.int .i64 v.tries) := by rw [hp.s.tries]; exact cell_of hp.r.blk 5 rfl
    clear hp hk
    go_wp2_with fail
    go_quiet ((first | (go_at_call 17; exact Calls.quiet_of_same (busy_any (HPV.out.c.no ((Kp.refl _ _).drewN _)))) | (go_at_call 23; exact Calls.quiet_of_same (session_any (HPV.out.c.no ((Kp.refl _ _).drewN _)))) | (go_at_call 24; exact Calls.quiet_of_same (seq_any (HPV.out.c.no ((Kp.refl _ _).drewN _)))) | (go_at_call 16; exact Calls.quiet_of_same (tries_any (HPV.out.c.no ((Kp.refl _ _).drewN _))))))
    go_wp2_with fail
    go_ret
    exact ⟨rfl, PW.no ⟨R, R', v, u, HPV.out⟩ ((Kp.refl _ _).drewN _), HK.out.drewN _⟩
end Go.Proofs.Ytjhefbkigmamfaa
