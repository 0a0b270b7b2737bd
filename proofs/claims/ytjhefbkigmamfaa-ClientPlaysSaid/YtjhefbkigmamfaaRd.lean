/-
  The document's Done, walked once. No condition.
-/
import Derived.Test.YtjhefbkigmamfaaRt
namespace Go.Proofs.Ytjhefbkigmamfaa
open Go.ChangeShapes Go.WideShapes Go.ChangeAt Go.RowKit
set_option linter.unusedVariables false
set_option linter.unusedSimpArgs false

theorem res41 {tmps : Array Value} {w : World} {g1 g2 : Nat} {c1 c2 : Array Value} {t : Bool} (h2 : tmps.getD 2 undef = .pointer (some ⟨g1, 0, none⟩)) (h3 : tmps.getD 3 undef = .pointer (some ⟨g2, 0, none⟩)) (h4 : tmps.getD 4 undef = .bool t)
    (b1 : w.heap[g1]? = some (.cells c1 54 (0, 0))) (b2 : w.heap[g2]? = some (.cells c2 56 (0, 0))) (s1 : c1.size = 4) (s2 : c2.size = 6) : (results Try.f41 tmps).run Try.prog w = .ok (.tuple #[.agg c1, .agg c2, .bool t]) w := by
  have h2' : tmps[2]?.getD undef = .pointer (some ⟨g1, 0, none⟩) := by simpa using h2
  have h3' : tmps[3]?.getD undef = .pointer (some ⟨g2, 0, none⟩) := by simpa using h3
  have h4' : tmps[4]?.getD undef = .bool t := by simpa using h4
  have r1 := run_loadVar_row (P := Try.prog) w g1 54 54 c1 (0, 0) _ b1 Try.underlying54 rfl (by rw [s1]; kernel_rfl)
  have r2 := run_loadVar_row (P := Try.prog) w g2 56 56 c2 (0, 0) _ b2 Try.underlying56 rfl (by rw [s2]; kernel_rfl)
  simp [results, Try.results41, h2', h3', h4', asAddr, r1, r2]
set_option maxRecDepth 100000 in
set_option maxHeartbeats 4000000 in
theorem rdone_no {w : World} {B : Nat} {R : Nat → Prop} {b : Nat} {v : CV} (k : RC w B R b v) (hs : v.state ≠ 2) : Calls Try.prog 41 #[.pointer (some ⟨b, 0, none⟩)] w fun e w' => e = .returned (.tuple #[.agg #[.int .i64 0, .int .i64 0, .int .i64 0, .slice none 0 0], .agg #[.int .i64 0, .int .i64 0, .int .i64 0, .int .i64 0, .int .i64 0, .slice none 0 0], .bool false]) ∧ Kp (fun _ => False) w w' := by
  have hka : Kp (fun _ => False) w ((w.alloc (.cells #[.int .i64 0, .int .i64 0, .int .i64 0, .slice none 0 0] 54)).alloc (.cells #[.int .i64 0, .int .i64 0, .int .i64 0, .int .i64 0, .int .i64 0, .slice none 0 0] 56)) := ((Kp.refl _ _).alloc _).alloc _
  have k1 := k.no hka
  have h1 : ((w.alloc (.cells #[.int .i64 0, .int .i64 0, .int .i64 0, .slice none 0 0] 54)).alloc (.cells #[.int .i64 0, .int .i64 0, .int .i64 0, .int .i64 0, .int .i64 0, .slice none 0 0] 56)).heap[w.heap.size]? = some (.cells #[.int .i64 0, .int .i64 0, .int .i64 0, .slice none 0 0] 54 (0, 0)) := heap_old _ (heap_new w _)
  have h2 : ((w.alloc (.cells #[.int .i64 0, .int .i64 0, .int .i64 0, .slice none 0 0] 54)).alloc (.cells #[.int .i64 0, .int .i64 0, .int .i64 0, .int .i64 0, .int .i64 0, .slice none 0 0] 56)).heap[w.heap.size + 1]? = some (.cells #[.int .i64 0, .int .i64 0, .int .i64 0, .int .i64 0, .int .i64 0, .slice none 0 0] 56 (0, 0)) := by
    have h := heap_new (w.alloc (.cells #[.int .i64 0, .int .i64 0, .int .i64 0, .slice none 0 0] 54)) (.cells #[.int .i64 0, .int .i64 0, .int .i64 0, .int .i64 0, .int .i64 0, .slice none 0 0] 56)
    simpa using h
  have K1 := Lib.hid k1
  have H1 := Lib.hid h1
  have H2 := Lib.hid h2
  have HK := Lib.hid hka
  have hsb : (v.state != 2) = true := by simp [hs]
  clear k k1 h1 h2 hka hs
  go_enter Try.func41, Try.ntmps41
  go_upto_region 1 with fail
  generalize ((w.alloc (.cells #[.int .i64 0, .int .i64 0, .int .i64 0, .slice none 0 0] 54)).alloc (.cells #[.int .i64 0, .int .i64 0, .int .i64 0, .int .i64 0, .int .i64 0, .slice none 0 0] 56)) = w1 at K1 H1 H2 HK ⊢
  have c8 := cell_of K1.out.blk 8 (v := .int .i64 v.state) rfl
  go_wp2_with (first | (refine wpList_store_row rfl 54 _ _ rfl w.heap.size _ rfl rfl 54 _ H1.out (by kernel_rfl) rfl (by simp [Value.oneCell']) ?_) | (refine wpList_store_row rfl 56 _ _ rfl (w.heap.size + 1) _ rfl rfl 56 _ ((setRow_other _ _ _ _ (by omega)).trans H2.out) (by kernel_rfl) rfl (by simp [Value.oneCell']) ?_))
  have a1 := setRow_heap _ _ _ #[.int .i64 0, .int .i64 0, .int .i64 0, .slice none 0 0] _ _ H1.out
  have a2 := setRow_heap _ _ _ #[.int .i64 0, .int .i64 0, .int .i64 0, .int .i64 0, .int .i64 0, .slice none 0 0] _ _ ((setRow_other w1 w.heap.size (w.heap.size + 1) #[.int .i64 0, .int .i64 0, .int .i64 0, .slice none 0 0] (by omega)).trans H2.out)
  have a3 := (setRow_other (w1.setRow w.heap.size #[.int .i64 0, .int .i64 0, .int .i64 0, .slice none 0 0]) (w.heap.size + 1) w.heap.size #[.int .i64 0, .int .i64 0, .int .i64 0, .int .i64 0, .int .i64 0, .slice none 0 0] (by omega)).trans a1
  exact bodyPost_ret (res41 rfl rfl rfl a3 a2 rfl rfl) rfl ⟨rfl, (HK.out.setRow (.inr (Nat.le_refl _)) _).setRow (.inr (by omega)) _⟩

set_option maxRecDepth 100000 in
set_option maxHeartbeats 4000000 in
theorem rdone_yes {w : World} {B : Nat} {R : Nat → Prop} {b : Nat} {v : CV} (k : RC w B R b v) (hs : v.state = 2) : Calls Try.prog 41 #[.pointer (some ⟨b, 0, none⟩)] w fun e w' => e = .returned (.tuple #[.agg v.ord.cells.toArray, .agg v.ans.rcells.toArray, .bool true]) ∧ RC w' B R b { v with state := 0 } ∧ Kp (fun j => j = b) w w' := by
  have hka : Kp (fun _ => False) w ((w.alloc (.cells #[.int .i64 0, .int .i64 0, .int .i64 0, .slice none 0 0] 54)).alloc (.cells #[.int .i64 0, .int .i64 0, .int .i64 0, .int .i64 0, .int .i64 0, .slice none 0 0] 56)) := ((Kp.refl _ _).alloc _).alloc _
  have k1 := k.no hka
  have h1 : ((w.alloc (.cells #[.int .i64 0, .int .i64 0, .int .i64 0, .slice none 0 0] 54)).alloc (.cells #[.int .i64 0, .int .i64 0, .int .i64 0, .int .i64 0, .int .i64 0, .slice none 0 0] 56)).heap[w.heap.size]? = some (.cells #[.int .i64 0, .int .i64 0, .int .i64 0, .slice none 0 0] 54 (0, 0)) := heap_old _ (heap_new w _)
  have h2 : ((w.alloc (.cells #[.int .i64 0, .int .i64 0, .int .i64 0, .slice none 0 0] 54)).alloc (.cells #[.int .i64 0, .int .i64 0, .int .i64 0, .int .i64 0, .int .i64 0, .slice none 0 0] 56)).heap[w.heap.size + 1]? = some (.cells #[.int .i64 0, .int .i64 0, .int .i64 0, .int .i64 0, .int .i64 0, .slice none 0 0] 56 (0, 0)) := by
    have h := heap_new (w.alloc (.cells #[.int .i64 0, .int .i64 0, .int .i64 0, .slice none 0 0] 54)) (.cells #[.int .i64 0, .int .i64 0, .int .i64 0, .int .i64 0, .int .i64 0, .slice none 0 0] 56)
    simpa using h
  have hlt := lt_of_block k.blk
  have HALL := Lib.hid (show ∀ j, All R b v j → j < w.heap.size from fun j h => (k.all h).2)
  have K1 := Lib.hid k1
  have H1 := Lib.hid h1
  have H2 := Lib.hid h2
  have HK := Lib.hid hka
  have HLT := Lib.hid hlt
  have HS := Lib.hid hs
  have hBw := k.ge
  clear k k1 h1 h2 hka hs hlt
  go_enter Try.func41, Try.ntmps41
  go_upto_region 1 with fail
  generalize ((w.alloc (.cells #[.int .i64 0, .int .i64 0, .int .i64 0, .slice none 0 0] 54)).alloc (.cells #[.int .i64 0, .int .i64 0, .int .i64 0, .int .i64 0, .int .i64 0, .slice none 0 0] 56)) = w1 at K1 H1 H2 HK ⊢
  obtain ⟨X, hX⟩ : ∃ X, X = w.heap.size := ⟨_, rfl⟩
  have HX := Lib.hid hX
  rw [← hX] at H1 H2 HLT ⊢
  clear hX
  have c8 : w1.cell? ⟨b, 8, none⟩ = some (.int .i64 2) := by rw [← HS.out]; exact cell_of K1.out.blk 8 rfl
  have f8 := free_of K1.out.blk 8
  go_upto_region 4 with fail
  have hk2 : Kp (fun j => j = b) w1 (w1.setCell ⟨b, 8, none⟩ (.int .i64 0)) := (Kp.refl (fun j => j = b) _).setCell (p := ⟨b, 8, none⟩) (.inl rfl) _
  have k2 : RC (w1.setCell ⟨b, 8, none⟩ (.int .i64 0)) B R b { v with state := 0 } := K1.out.set hk2 _ (heap_set K1.out.blk 8 (.int .i64 0)) ⟨rfl, rfl, rfl, rfl, rfl, rfl, rfl⟩ K1.out.at_ ⟨K1.out.ord, K1.out.ordR, K1.out.ordL⟩ ⟨K1.out.ans, K1.out.rec_⟩
  have K2 := Lib.hid k2
  have HK2 := Lib.hid (show Kp (fun j => j = b) w (w1.setCell ⟨b, 8, none⟩ (.int .i64 0)) from (HK.out.mono (S' := fun j => j = b) (fun _ _ h => h.elim)).trans hk2)
  have HX1 := Lib.hid (hk2.heap H1.out (fun e => by have := HLT.out; omega))
  have HX2 := Lib.hid (hk2.heap H2.out (fun e => by have := HLT.out; omega))
  clear c8 f8 hk2 k2 K1 H1 H2 HK
  generalize w1.setCell ⟨b, 8, none⟩ (.int .i64 0) = w2 at K2 HK2 HX1 HX2 ⊢
  refine wp_region_held_drew (S := fun w' => w'.heap[b]? = some (.cells ({ v with state := 0 } : CV).rcells 76 (0, 0))) (by kernel_rfl) K2.out.blk (fun hHeld => ?_)
  have KD := Lib.hid (K2.out.no ((Kp.refl _ _).drew))
  have HKD := Lib.hid (HK2.out.drew)
  have hXd : w2.drew.heap[X]? = some (.cells #[.int .i64 0, .int .i64 0, .int .i64 0, .slice none 0 0] 54 (0, 0)) := HX1.out
  have hYd : w2.drew.heap[X + 1]? = some (.cells #[.int .i64 0, .int .i64 0, .int .i64 0, .int .i64 0, .int .i64 0, .slice none 0 0] 56 (0, 0)) := HX2.out
  have hbX : ¬ b = X := by have := HLT.out; omega
  have hbY : ¬ b = X + 1 := by have := HLT.out; omega
  clear K2 HK2 HX1 HX2
  generalize w2.drew = y0 at hHeld KD HKD hXd hYd ⊢
  refine wpAnyH_take (i := 0) (v := ?_) rfl (by kernel_rfl) (by kernel_rfl) (by kernel_rfl) (fun _ _ _ h => h) (Or.inl ⟨by rfl, ?_⟩) (by assumption) ?_
  rotate_left
  · intro w hSw
    try dsimp only at hSw
    go_simp
    try with_reducible rfl
  try simp only [Act.put, List.getElem_toArray, List.getElem_cons_zero, List.getElem_cons_succ, List.setIfInBounds_toArray, List.set_cons_zero, List.set_cons_succ]
  refine wpAnyH_take (i := 1) (v := ?_) rfl (by kernel_rfl) (by kernel_rfl) (by kernel_rfl) (fun _ _ _ h => h) (Or.inl ⟨by rfl, ?_⟩) (by assumption) ?_
  rotate_left
  · intro w hSw
    try dsimp only at hSw
    go_simp
    try with_reducible rfl
  try simp only [Act.put, List.getElem_toArray, List.getElem_cons_zero, List.getElem_cons_succ, List.setIfInBounds_toArray, List.set_cons_zero, List.set_cons_succ]
  refine wpAnyH_take (i := 2) (v := ?_) rfl (by kernel_rfl) (by kernel_rfl) (by kernel_rfl) (fun _ _ _ h => h) (Or.inl ⟨by rfl, ?_⟩) (by assumption) ?_
  rotate_left
  · intro w hSw
    try dsimp only at hSw
    go_simp
    try with_reducible rfl
  try simp only [Act.put, List.getElem_toArray, List.getElem_cons_zero, List.getElem_cons_succ, List.setIfInBounds_toArray, List.set_cons_zero, List.set_cons_succ]
  refine wpAnyH_take (i := 3) (v := .agg ([Value.int .i64 v.ord.kind, .int .i64 v.ord.from_, .int .i64 v.ord.most, .slice v.ord.da v.ord.dl.length v.ord.dc] : List Value).toArray) rfl (by kernel_rfl) (by kernel_rfl) (by kernel_rfl) (fun _ _ _ h => h) (yieldsIf_load_mid (by rfl) 54 _ rfl b 9 rfl [Value.int .i64 v.ord.kind, .int .i64 v.ord.from_, .int .i64 v.ord.most, .slice v.ord.da v.ord.dl.length v.ord.dc] _ (fun w hw => World.rangeAt_of_block hw 9 4) Try.underlying54 rfl (by kernel_rfl)) (by assumption) ?_
  try simp only [Act.put, List.getElem_toArray, List.getElem_cons_zero, List.getElem_cons_succ, List.setIfInBounds_toArray, List.set_cons_zero, List.set_cons_succ]
  refine wpAnyH_take (i := 4) (v := ?_) rfl (by kernel_rfl) (by kernel_rfl) (by kernel_rfl) (fun _ _ _ h => h) (Or.inl ⟨by rfl, ?_⟩) (by assumption) ?_
  rotate_left
  · intro w hSw
    try dsimp only at hSw
    go_simp
    try with_reducible rfl
  try simp only [Act.put, List.getElem_toArray, List.getElem_cons_zero, List.getElem_cons_succ, List.setIfInBounds_toArray, List.set_cons_zero, List.set_cons_succ]
  refine wpAnyH_take (i := 5) (v := ?_) rfl (by kernel_rfl) (by kernel_rfl) (by kernel_rfl) (fun _ _ _ h => h) (Or.inl ⟨by rfl, ?_⟩) (by assumption) ?_
  rotate_left
  · intro w hSw
    try dsimp only at hSw
    go_simp
    try with_reducible rfl
  try simp only [Act.put, List.getElem_toArray, List.getElem_cons_zero, List.getElem_cons_succ, List.setIfInBounds_toArray, List.set_cons_zero, List.set_cons_succ]
  refine wpAnyH_take (i := 6) (v := ?_) rfl (by kernel_rfl) (by kernel_rfl) (by kernel_rfl) (fun _ _ _ h => h) (Or.inl ⟨by rfl, ?_⟩) (by assumption) ?_
  rotate_left
  · intro w hSw
    try dsimp only at hSw
    go_simp
    try with_reducible rfl
  try simp only [Act.put, List.getElem_toArray, List.getElem_cons_zero, List.getElem_cons_succ, List.setIfInBounds_toArray, List.set_cons_zero, List.set_cons_succ]
  refine wpAnyH_take (i := 7) (v := .agg ([Value.int .i64 v.ans.id, .int .i64 v.ans.e, .int .i64 v.ans.session, .int .i64 v.ans.number, .int .i64 v.ans.leader, .slice v.ans.ra v.ans.rl.length v.ans.rc] : List Value).toArray) rfl (by kernel_rfl) (by kernel_rfl) (by kernel_rfl) (fun _ _ _ h => h) (yieldsIf_load_mid (by rfl) 56 _ rfl b 13 rfl [Value.int .i64 v.ans.id, .int .i64 v.ans.e, .int .i64 v.ans.session, .int .i64 v.ans.number, .int .i64 v.ans.leader, .slice v.ans.ra v.ans.rl.length v.ans.rc] _ (fun w hw => World.rangeAt_of_block hw 13 6) Try.underlying56 rfl (by kernel_rfl)) (by assumption) ?_
  try simp only [Act.put, List.getElem_toArray, List.getElem_cons_zero, List.getElem_cons_succ, List.setIfInBounds_toArray, List.set_cons_zero, List.set_cons_succ]
  refine wpAnyH_ready (rs := [8]) (by kernel_rfl) (by simp) ?_
  refine AllReadyH.cons rfl (fun K hK => ?_) AllReadyH.nil
  refine wp_store_row 54 _ _ rfl X ([Value.int .i64 v.ord.kind, .int .i64 v.ord.from_, .int .i64 v.ord.most, .slice v.ord.da v.ord.dl.length v.ord.dc] : List Value).toArray rfl rfl 54 _ hXd (by kernel_rfl) rfl (by simp [Value.oneCell']) ?_
  refine hK.out _ _ ((setRow_other _ _ _ _ hbX).trans hHeld) (fun hHeld2 => ?_)
  clear hK K
  try simp only [Act.put, List.getElem_toArray, List.getElem_cons_zero, List.getElem_cons_succ, List.setIfInBounds_toArray, List.set_cons_zero, List.set_cons_succ]
  refine wpAnyH_ready (rs := [9]) (by kernel_rfl) (by simp) ?_
  refine AllReadyH.cons rfl (fun K hK => ?_) AllReadyH.nil
  have hYe := (setRow_other y0 X (X + 1) ([Value.int .i64 v.ord.kind, .int .i64 v.ord.from_, .int .i64 v.ord.most, .slice v.ord.da v.ord.dl.length v.ord.dc] : List Value).toArray (by omega)).trans hYd
  refine wp_store_row 56 _ _ rfl (X + 1) ([Value.int .i64 v.ans.id, .int .i64 v.ans.e, .int .i64 v.ans.session, .int .i64 v.ans.number, .int .i64 v.ans.leader, .slice v.ans.ra v.ans.rl.length v.ans.rc] : List Value).toArray rfl rfl 56 _ hYe (by kernel_rfl) rfl (by simp [Value.oneCell']) ?_
  refine hK.out _ _ ((setRow_other _ _ _ _ hbY).trans hHeld2) (fun hHeld3 => ?_)
  clear hK K
  try simp only [Act.put, List.getElem_toArray, List.getElem_cons_zero, List.getElem_cons_succ, List.setIfInBounds_toArray, List.set_cons_zero, List.set_cons_succ]
  have hXf := (setRow_other (y0.setRow X ([Value.int .i64 v.ord.kind, .int .i64 v.ord.from_, .int .i64 v.ord.most, .slice v.ord.da v.ord.dl.length v.ord.dc] : List Value).toArray) (X + 1) X ([Value.int .i64 v.ans.id, .int .i64 v.ans.e, .int .i64 v.ans.session, .int .i64 v.ans.number, .int .i64 v.ans.leader, .slice v.ans.ra v.ans.rl.length v.ans.rc] : List Value).toArray (by omega)).trans (setRow_heap _ _ _ ([Value.int .i64 v.ord.kind, .int .i64 v.ord.from_, .int .i64 v.ord.most, .slice v.ord.da v.ord.dl.length v.ord.dc] : List Value).toArray _ _ hXd)
  have hYf := setRow_heap _ _ _ ([Value.int .i64 v.ans.id, .int .i64 v.ans.e, .int .i64 v.ans.session, .int .i64 v.ans.number, .int .i64 v.ans.leader, .slice v.ans.ra v.ans.rl.length v.ans.rc] : List Value).toArray _ _ hYe
  refine wpAnyH_take (i := 10) (v := .bool true) rfl (by kernel_rfl) (by kernel_rfl) (by kernel_rfl) (fun _ _ _ h => h) (Or.inl ⟨by rfl, ?_⟩) (by assumption) ?_
  · intro w hSw
    go_simp
    try with_reducible rfl
  try simp only [Act.put, List.getElem_toArray, List.getElem_cons_zero, List.getElem_cons_succ, List.setIfInBounds_toArray, List.set_cons_zero, List.set_cons_succ]
  refine wpAnyH_done (by kernel_rfl) ?_ _
  go_wp2
  refine bodyPost_ret (res41 rfl rfl rfl hXf hYf rfl rfl) rfl ⟨rfl, ?_, ?_⟩
  · exact KD.out.kp (S := fun j => X ≤ j) (((Kp.refl _ _).setRow (.inl (Nat.le_refl _)) _).setRow (.inl (by omega)) _) (fun j hj e => by have := HALL.out j hj; have := HX.out; omega) (fun j e => by have := HLT.out; omega)
  · exact (HKD.out.setRow (.inr (by have := HX.out; omega)) _).setRow (.inr (by have := HX.out; omega)) _
end Go.Proofs.Ytjhefbkigmamfaa
