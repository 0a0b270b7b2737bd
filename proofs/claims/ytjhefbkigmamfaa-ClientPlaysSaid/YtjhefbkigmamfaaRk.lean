/-
  The document's ask, walked once: one call more. Where the counts are few.
-/
import Derived.Test.YtjhefbkigmamfaaRn
import Derived.Deep.DeepCutAuto
namespace Go.Proofs.Ytjhefbkigmamfaa
open Go.ChangeShapes Go.WideShapes Go.ChangeAt Go.RowKit
set_option linter.unusedVariables false
set_option linter.unusedSimpArgs false

theorem info82z : (Try.prog.info? 82).map (fun i => (i.zero, i.size, i.bytes)) = some (some (.agg #[.int .i64 0, .int .i64 0, .int .i64 0, .int .i64 0, .int .i64 0, .int .i64 0, .int .i64 0, .slice none 0 0]), 8, 80) := by kernel_rfl
theorem rask_end {w w1 wc w5 : World} {B : Nat} {R : Nat → Prop} {b : Nat} {u : CV} {q : CallV} {ca' : Option Addr} {cc' : Nat} (hkw : Kp (fun j => j = b) w w1) (k1 : RC w1 B R b u) (hk1 : Kp (fun j => w1.heap.size ≤ j) w1 wc) (k2 : RC wc B R b u) (hda : Row wc q.da (bytes q.dl)) (hfr : ∀ g, blockOf q.da = some g → w1.heap.size ≤ g ∧ g < wc.heap.size) (hB : B ≤ w.heap.size)
    (hk5 : Kp (fun j => some j = blockOf u.ca) wc w5) (ho5 : Owns w5 B 82 8 ca' (u.cl.length + 1) cc' (flat8 u.cl ++ q.cells)) (hmv : blockOf ca' = blockOf u.ca ∨ ∀ g, blockOf ca' = some g → wc.heap.size ≤ g) :
    ∃ R', RC (w5.setCell ⟨b, 19, none⟩ (.slice ca' (u.cl.length + 1) cc')) B R' b { u with ca := ca', cl := u.cl ++ [q], cc := cc' } ∧ Kp (Foot b u.ca) w (w5.setCell ⟨b, 19, none⟩ (.slice ca' (u.cl.length + 1) cc')) ∧ (∀ j, R' j → R j ∨ w.heap.size ≤ j) ∧ Moved w u.ca ca' := by
  have hs0 := hkw.size
  have hs1 := hk1.size
  have hbl := lt_of_block k1.blk
  have hca : ∀ j, some j = blockOf u.ca → j < w1.heap.size := fun j e => (k1.own.from e.symm).2
  have hneb : ∀ j, some j = blockOf u.ca → j ≠ b := fun j e h => k2.ne (h ▸ e.symm)
  have hb5 := hk5.heap k2.blk (fun e => hneb b e rfl)
  have hk6 : Kp (fun j => j = b) w5 (w5.setCell ⟨b, 19, none⟩ (.slice ca' (u.cl.length + 1) cc')) := (Kp.refl (fun j => j = b) _).setCell (p := ⟨b, 19, none⟩) (.inl rfl) _
  have hk56 : Kp (Foot b u.ca) wc (w5.setCell ⟨b, 19, none⟩ (.slice ca' (u.cl.length + 1) cc')) := (hk5.mono (S' := Foot b u.ca) (fun _ _ h => .inr h)).trans (hk6.mono (fun _ _ h => .inl h))
  have hR : ∀ j, R j → ¬ Foot b u.ca j := fun j hj h => k2.dis j h hj
  have hF : ∀ j, w1.heap.size ≤ j → ¬ Foot b u.ca j := fun j hj h => h.elim (fun e => by omega) (fun e => by have := hca j e; omega)
  have hcb : ∀ g, blockOf ca' = some g → g ≠ b := by
    intro g hg e
    rcases hmv with h | h
    · exact hneb g (h ▸ hg.symm) e
    · have := h g hg; omega
  have hs5 := hk5.size
  have hFB : ∀ j, Foot b u.ca j → B ≤ j := fun j h => (k2.foot h).1
  refine ⟨fun j => R j ∨ some j = blockOf q.da, ⟨?_, k2.ge, k2.srv.kp hk56 (fun g hg => hR g (k2.srvR g hg)), fun g hg => .inl (k2.srvR g hg), k2.one, k2.seven, k2.at_, k2.id1, k2.id2, k2.pat1, k2.pat2, k2.ord.kp hk56 (fun g hg => hR g (k2.ordR g hg)), fun g hg => .inl (k2.ordR g hg), k2.ordL, k2.ans.kp hk56 hFB,
    fun r hr => (k2.rec_ r hr).kp hk56 hFB, ?_, ?_, ?_, ?_⟩, ?_, ?_, ?_⟩
  · have h := heap_set hb5 19 (.slice ca' (u.cl.length + 1) cc')
    have e : (u.cl ++ [q]).length = u.cl.length + 1 := by simp
    have e2 : CV.rcells { u with ca := ca', cl := u.cl ++ [q], cc := cc' } = u.rcells.setIfInBounds 19 (.slice ca' (u.cl.length + 1) cc') := by
      unfold CV.rcells
      rw [e]
      rfl
    rw [e2]
    exact h
  · have e : (u.cl ++ [q]).length = u.cl.length + 1 := by simp
    have e2 : flat8 (u.cl ++ [q]) = flat8 u.cl ++ q.cells := by simp [flat8]
    show Owns _ B 82 8 ca' (u.cl ++ [q]).length cc' (flat8 (u.cl ++ [q]))
    rw [e, e2]
    exact ho5.kp hk6 (fun g hg e => hcb g hg e)
  · intro x hx
    rcases List.mem_append.1 hx with hx | hx
    · exact ⟨(k2.dat x hx).1.kp hk56 (fun g hg => hR g ((k2.dat x hx).2 g hg)), fun g hg => .inl ((k2.dat x hx).2 g hg)⟩
    · simp at hx
      subst hx
      exact ⟨hda.kp hk56 (fun g hg => hF g (hfr g hg).1), fun g hg => .inr hg.symm⟩
  · intro j hj
    rintro (h | h)
    · rcases hj with e | e
      · exact k2.dis j (.inl e) h
      · rcases hmv with m | m
        · exact k2.dis j (.inr (m ▸ e)) h
        · have := m j e.symm
          have := (k2.lt j h).2
          omega
    · have hq := hfr j h.symm
      rcases hj with e | e
      · omega
      · rcases hmv with m | m
        · have := hca j (m ▸ e)
          omega
        · have := m j e.symm
          omega
  · rintro j (h | h)
    · have := k2.lt j h
      exact ⟨this.1, by have := hk56.size; omega⟩
    · have := hfr j h.symm
      exact ⟨by omega, by have := hk56.size; omega⟩
  · refine ((hkw.mono (S' := Foot b u.ca) (fun _ _ h => .inl h)).andThen hk1 (fun i hi (h : w1.heap.size ≤ i) => by omega)).andThen hk56 (fun _ _ h => h)
  · rintro j (h | h)
    · exact .inl h
    · have := hfr j h.symm
      exact .inr (by omega)
  · rcases hmv with m | m
    · exact .inl m
    · exact .inr (fun g hg => by have := m g hg; omega)

set_option maxRecDepth 100000 in
set_option maxHeartbeats 4000000 in
theorem rask_any {w : World} {B : Nat} {R : Nat → Prop} {b : Nat} {v : CV} (k : RC w B R b v) (ht : Few (v.tries + 1)) (ht0 : 0 ≤ v.tries) (hc : v.cl.length ≤ 1500000000000) (hB : B ≤ w.heap.size) :
    Calls Try.prog 47 #[.pointer (some ⟨b, 0, none⟩)] w fun e w' => e = .returned (.tuple #[]) ∧ ∃ da dc R' ca' cc', RC w' B R' b { more v with ca := ca', cl := v.cl ++ [callOf (more v) da dc], cc := cc' } ∧ Kp (Foot b v.ca) w w' ∧ (∀ j, R' j → R j ∨ w.heap.size ≤ j) ∧ Moved w v.ca ca' := by
  have c6 := cell_of k.blk 6 (v := .int .i64 v.passed) rfl
  have c5 := cell_of k.blk 5 (v := .int .i64 v.tries) rfl
  have f6 := free_of k.blk 6
  have f5 := free_of k.blk 5
  obtain ⟨t0, t1⟩ := ht
  have w1 : IntKind.i64.wrap (v.tries + 1) = v.tries + 1 := IntWalk.i64_in _ (by omega)
  have hk1 : Kp (fun j => j = b) w ((w.setCell ⟨b, 5, none⟩ (.int .i64 (v.tries + 1))).setCell ⟨b, 6, none⟩ (.int .i64 0)) := ((Kp.refl (fun j => j = b) _).setCell (p := ⟨b, 5, none⟩) (.inl rfl) _).setCell (p := ⟨b, 6, none⟩) (.inl rfl) _
  have k1 : RC ((w.setCell ⟨b, 5, none⟩ (.int .i64 (v.tries + 1))).setCell ⟨b, 6, none⟩ (.int .i64 0)) B R b (more v) :=
    k.set hk1 (more v) (heap_set (heap_set k.blk 5 (.int .i64 (v.tries + 1))) 6 (.int .i64 0)) ⟨rfl, rfl, rfl, rfl, rfl, rfl, rfl⟩ k.at_ ⟨k.ord, k.ordR, k.ordL⟩ ⟨k.ans, k.rec_⟩
  have K1 := Lib.hid k1
  have HK1 := Lib.hid hk1
  have hid1 := k.id1
  have hid2 := k.id2
  clear k k1 hk1
  go_enter Try.func47, Try.ntmps47
  go_upto_region 2 with fail
  clear c5 c6 f5 f6 w1
  generalize ((w.setCell ⟨b, 5, none⟩ (.int .i64 (v.tries + 1))).setCell ⟨b, 6, none⟩ (.int .i64 0)) = w1 at K1 HK1 ⊢
  have d0 := cell_of K1.out.blk 9 (v := .int .i64 v.ord.kind) rfl
  have d1 := cell_of K1.out.blk 10 (v := .int .i64 v.ord.from_) rfl
  have d2 := cell_of K1.out.blk 11 (v := .int .i64 v.ord.most) rfl
  have d3 := cell_of K1.out.blk 12 (v := .slice v.ord.da v.ord.dl.length v.ord.dc) rfl
  go_upto_region 3 with fail
  have hka := (Kp.refl (fun _ => False) w1).alloc (.cells #[.int .i64 v.ord.kind, .int .i64 v.ord.from_, .int .i64 v.ord.most, .slice v.ord.da v.ord.dl.length v.ord.dc] 54)
  have hOn := heap_new w1 (.cells #[.int .i64 v.ord.kind, .int .i64 v.ord.from_, .int .i64 v.ord.most, .slice v.ord.da v.ord.dl.length v.ord.dc] 54)
  have KB := Lib.hid (K1.out.no hka)
  have HKA := Lib.hid hka
  have HON := Lib.hid hOn
  clear hka hOn d0 d1 d2 d3
  generalize w1.alloc (.cells #[.int .i64 v.ord.kind, .int .i64 v.ord.from_, .int .i64 v.ord.most, .slice v.ord.da v.ord.dl.length v.ord.dc] 54) = w2 at KB HKA HON ⊢
  obtain ⟨O, hO⟩ : ∃ O, O = w1.heap.size := ⟨_, rfl⟩
  rw [← hO] at HON ⊢
  have HOO := Lib.hid hO
  clear hO
  go_cut [3] (fun q w' => ∃ A da dc, q = .pointer (some ⟨A, 0, none⟩) ∧ w'.heap[A]? = some (.cells #[.int .i64 (v.sl.getD v.at_ 0), .int .i64 (v.id * 1000000 + (v.tries + 1)), .int .i64 v.ord.kind, .int .i64 0, .int .i64 0, .int .i64 v.ord.from_, .int .i64 v.ord.most, .slice da v.ord.dl.length dc] 82 (0, 0)) ∧ w2.heap.size ≤ A ∧ Row w' da (bytes v.ord.dl) ∧ (∀ g, blockOf da = some g → w2.heap.size ≤ g ∧ g < w'.heap.size ∧ g ≠ A) ∧ Kp (fun _ => False) w2 w')
  case first =>
    obtain ⟨g, og, hsa, d2⟩ := Row.int (zs := v.sl) KB.out.srv KB.out.at_
    have HSA := Lib.hid (show v.sa = some ⟨g, og, none⟩ from hsa)
    have hg2 : g < w2.heap.size := World.block_lt_of_cell? (a := ⟨g, og + v.at_, none⟩) w2 d2
    have d2' : w2.cell? ⟨g, og + v.at_, none⟩ = some (.int .i64 (v.sl.getD v.at_ 0)) := d2
    obtain ⟨tz, hto⟩ : ∃ tz, tz = v.sl.getD v.at_ 0 := ⟨_, rfl⟩
    rw [← hto] at d2'
    have HTO := Lib.hid hto
    obtain ⟨M, hM⟩ : ∃ M, M = w2.heap.size := ⟨_, rfl⟩
    have HM := Lib.hid hM
    have HB2 := Lib.hid (show b < M by rw [hM]; exact lt_of_block KB.out.blk)
    have HO2 := Lib.hid (show O < M by rw [hM]; exact lt_of_block HON.out)
    have HG2 := Lib.hid (show g < M by rw [hM]; exact hg2)
    have hat : (v.at_ : Int) < (v.sl.length : Int) := by have := KB.out.at_; have e : (more v).sl = v.sl := rfl; have e2 : (more v).at_ = v.at_ := rfl; rw [e, e2] at this; omega
    have hat0 : (0 : Int) ≤ (v.at_ : Int) := by omega
    have w1m : IntKind.i64.wrap (v.id * 1000000) = v.id * 1000000 := IntWalk.i64_in _ (by omega)
    have w1a : IntKind.i64.wrap (v.id * 1000000 + (v.tries + 1)) = v.id * 1000000 + (v.tries + 1) := IntWalk.i64_in _ (by omega)
    have HD := Lib.hid (show Row w2 v.ord.da (bytes v.ord.dl) from KB.out.ord)
    have HDL := Lib.hid (show v.ord.dl.length ≤ 140737488355328 from KB.out.ordL)
    clear hsa d2 hto hg2
    refine wp_region_held_drew (S := fun w' => w'.heap[b]? = some (.cells (more v).rcells 76 (0, 0)) ∧ w'.heap[O]? = some (.cells #[.int .i64 v.ord.kind, .int .i64 v.ord.from_, .int .i64 v.ord.most, .slice v.ord.da v.ord.dl.length v.ord.dc] 54 (0, 0)) ∧ w'.cell? ⟨g, og + v.at_, none⟩ = some (.int .i64 tz)) (by kernel_rfl) ⟨KB.out.blk, HON.out, d2'⟩ (fun hHeld => ?_)
    have hk : Kp (fun _ => False) w2 w2.drew := (Kp.refl _ _).drew
    have hsM : M ≤ w2.drew.heap.size := by rw [hM]; exact Nat.le_refl _
    clear d2' hM
    generalize w2.drew = y0 at hHeld hk hsM ⊢
    refine wpAnyH_take (i := 0) (v := ?_) rfl (by kernel_rfl) (by kernel_rfl) (by kernel_rfl) (fun _ _ _ h => h) (Or.inl ⟨by rfl, ?_⟩) (by assumption) ?_
    rotate_left
    · intro w hSw
      try dsimp only at hSw
      go_simp
      try with_reducible rfl
    try simp only [Act.put, List.getElem_toArray, List.getElem_cons_zero, List.getElem_cons_succ, List.setIfInBounds_toArray, List.set_cons_zero, List.set_cons_succ]
    refine wpAnyH_take (i := 1) (v := ?_) rfl (by kernel_rfl) (by kernel_rfl) (by kernel_rfl) (fun _ _ _ h => h) (Or.inl ⟨by rfl, ?_⟩) (by assumption) ?_
    rotate_left
    · intro w hSw
      try dsimp only at hSw
      go_simp
      try with_reducible rfl
    try simp only [Act.put, List.getElem_toArray, List.getElem_cons_zero, List.getElem_cons_succ, List.setIfInBounds_toArray, List.set_cons_zero, List.set_cons_succ]
    refine wpAnyH_take (i := 2) (v := ?_) rfl (by kernel_rfl) (by kernel_rfl) (by kernel_rfl) (fun _ _ _ h => h) (Or.inl ⟨by rfl, ?_⟩) (by assumption) ?_
    rotate_left
    · intro w hSw
      try dsimp only at hSw
      go_simp
      try with_reducible rfl
    try simp only [Act.put, List.getElem_toArray, List.getElem_cons_zero, List.getElem_cons_succ, List.setIfInBounds_toArray, List.set_cons_zero, List.set_cons_succ]
    refine wpAnyH_take (i := 3) (v := .slice (some ⟨g, og, none⟩) v.sl.length v.sc) rfl (by kernel_rfl) (by kernel_rfl) (by kernel_rfl) (fun _ _ _ h => h) (Or.inl ⟨by rfl, ?_⟩) (by assumption) ?_
    · intro w hSw
      have hc := cell_of hSw.1 7 (v := .slice (some ⟨g, og, none⟩) v.sl.length v.sc) (by rw [← HSA.out]; rfl)
      try dsimp only at hSw
      go_simp
      try with_reducible rfl
    try simp only [Act.put, List.getElem_toArray, List.getElem_cons_zero, List.getElem_cons_succ, List.setIfInBounds_toArray, List.set_cons_zero, List.set_cons_succ]
    refine wpAnyH_take (i := 4) (v := ?_) rfl (by kernel_rfl) (by kernel_rfl) (by kernel_rfl) (fun _ _ _ h => h) (Or.inl ⟨by rfl, ?_⟩) (by assumption) ?_
    rotate_left
    · intro w hSw
      try dsimp only at hSw
      go_simp
      try with_reducible rfl
    try simp only [Act.put, List.getElem_toArray, List.getElem_cons_zero, List.getElem_cons_succ, List.setIfInBounds_toArray, List.set_cons_zero, List.set_cons_succ]
    refine wpAnyH_take (i := 5) (v := ?_) rfl (by kernel_rfl) (by kernel_rfl) (by kernel_rfl) (fun _ _ _ h => h) (Or.inl ⟨by rfl, ?_⟩) (by assumption) ?_
    rotate_left
    · intro w hSw
      try dsimp only at hSw
      go_simp
      try with_reducible rfl
    try simp only [Act.put, List.getElem_toArray, List.getElem_cons_zero, List.getElem_cons_succ, List.setIfInBounds_toArray, List.set_cons_zero, List.set_cons_succ]
    refine wpAnyH_take (i := 6) (v := ?_) rfl (by kernel_rfl) (by kernel_rfl) (by kernel_rfl) (fun _ _ _ h => h) (Or.inl ⟨by rfl, ?_⟩) (by assumption) ?_
    rotate_left
    · intro w hSw
      try dsimp only at hSw
      go_simp
      try with_reducible rfl
    try simp only [Act.put, List.getElem_toArray, List.getElem_cons_zero, List.getElem_cons_succ, List.setIfInBounds_toArray, List.set_cons_zero, List.set_cons_succ]
    refine wpAnyH_take (i := 7) (v := .int .i64 (v.at_ : Nat)) rfl (by kernel_rfl) (by kernel_rfl) (by kernel_rfl) (fun _ _ _ h => h) (Or.inl ⟨by rfl, ?_⟩) (by assumption) ?_
    · intro w hSw
      have hc := cell_of hSw.1 2 (v := .int .i64 (v.at_ : Nat)) rfl
      try dsimp only at hSw
      go_simp
      try with_reducible rfl
    try simp only [Act.put, List.getElem_toArray, List.getElem_cons_zero, List.getElem_cons_succ, List.setIfInBounds_toArray, List.set_cons_zero, List.set_cons_succ]
    refine wpAnyH_take (i := 8) (v := ?_) rfl (by kernel_rfl) (by kernel_rfl) (by kernel_rfl) (fun _ _ _ h => h) (Or.inl ⟨by rfl, ?_⟩) (by assumption) ?_
    rotate_left
    · intro w hSw
      try dsimp only at hSw
      go_simp
      try with_reducible rfl
    try simp only [Act.put, List.getElem_toArray, List.getElem_cons_zero, List.getElem_cons_succ, List.setIfInBounds_toArray, List.set_cons_zero, List.set_cons_succ]
    refine wpAnyH_take (i := 9) (v := .int .i64 tz) rfl (by kernel_rfl) (by kernel_rfl) (by kernel_rfl) (fun _ _ _ h => h) (Or.inl ⟨by rfl, ?_⟩) (by assumption) ?_
    · intro w hSw
      have hc := hSw.2.2
      try dsimp only at hSw
      go_simp
      try with_reducible rfl
    try simp only [Act.put, List.getElem_toArray, List.getElem_cons_zero, List.getElem_cons_succ, List.setIfInBounds_toArray, List.set_cons_zero, List.set_cons_succ]
    refine wpAnyH_take (i := 10) (v := ?_) rfl (by kernel_rfl) (by kernel_rfl) (by kernel_rfl) (fun _ _ _ h => h) (Or.inl ⟨by rfl, ?_⟩) (by assumption) ?_
    rotate_left
    · intro w hSw
      try dsimp only at hSw
      go_simp
      try with_reducible rfl
    try simp only [Act.put, List.getElem_toArray, List.getElem_cons_zero, List.getElem_cons_succ, List.setIfInBounds_toArray, List.set_cons_zero, List.set_cons_succ]
    refine wpAnyH_take (i := 11) (v := ?_) rfl (by kernel_rfl) (by kernel_rfl) (by kernel_rfl) (fun _ _ _ h => h) (Or.inl ⟨by rfl, ?_⟩) (by assumption) ?_
    rotate_left
    · intro w hSw
      try dsimp only at hSw
      go_simp
      try with_reducible rfl
    try simp only [Act.put, List.getElem_toArray, List.getElem_cons_zero, List.getElem_cons_succ, List.setIfInBounds_toArray, List.set_cons_zero, List.set_cons_succ]
    refine wpAnyH_take (i := 12) (v := ?_) rfl (by kernel_rfl) (by kernel_rfl) (by kernel_rfl) (fun _ _ _ h => h) (Or.inl ⟨by rfl, ?_⟩) (by assumption) ?_
    rotate_left
    · intro w hSw
      try dsimp only at hSw
      go_simp
      try with_reducible rfl
    try simp only [Act.put, List.getElem_toArray, List.getElem_cons_zero, List.getElem_cons_succ, List.setIfInBounds_toArray, List.set_cons_zero, List.set_cons_succ]
    refine wpAnyH_take (i := 13) (v := .int .i64 v.id) rfl (by kernel_rfl) (by kernel_rfl) (by kernel_rfl) (fun _ _ _ h => h) (Or.inl ⟨by rfl, ?_⟩) (by assumption) ?_
    · intro w hSw
      have hc := cell_of hSw.1 0 (v := .int .i64 v.id) rfl
      try dsimp only at hSw
      go_simp
      try with_reducible rfl
    try simp only [Act.put, List.getElem_toArray, List.getElem_cons_zero, List.getElem_cons_succ, List.setIfInBounds_toArray, List.set_cons_zero, List.set_cons_succ]
    refine wpAnyH_take (i := 14) (v := .int .i64 (v.id * 1000000)) rfl (by kernel_rfl) (by kernel_rfl) (by kernel_rfl) (fun _ _ _ h => h) (Or.inl ⟨by rfl, ?_⟩) (by assumption) ?_
    · intro w hSw
      try dsimp only at hSw
      go_simp
      try with_reducible rfl
    try simp only [Act.put, List.getElem_toArray, List.getElem_cons_zero, List.getElem_cons_succ, List.setIfInBounds_toArray, List.set_cons_zero, List.set_cons_succ]
    refine wpAnyH_take (i := 15) (v := ?_) rfl (by kernel_rfl) (by kernel_rfl) (by kernel_rfl) (fun _ _ _ h => h) (Or.inl ⟨by rfl, ?_⟩) (by assumption) ?_
    rotate_left
    · intro w hSw
      try dsimp only at hSw
      go_simp
      try with_reducible rfl
    try simp only [Act.put, List.getElem_toArray, List.getElem_cons_zero, List.getElem_cons_succ, List.setIfInBounds_toArray, List.set_cons_zero, List.set_cons_succ]
    refine wpAnyH_take (i := 16) (v := ?_) rfl (by kernel_rfl) (by kernel_rfl) (by kernel_rfl) (fun _ _ _ h => h) (Or.inl ⟨by rfl, ?_⟩) (by assumption) ?_
    rotate_left
    · intro w hSw
      try dsimp only at hSw
      go_simp
      try with_reducible rfl
    try simp only [Act.put, List.getElem_toArray, List.getElem_cons_zero, List.getElem_cons_succ, List.setIfInBounds_toArray, List.set_cons_zero, List.set_cons_succ]
    refine wpAnyH_take (i := 17) (v := ?_) rfl (by kernel_rfl) (by kernel_rfl) (by kernel_rfl) (fun _ _ _ h => h) (Or.inl ⟨by rfl, ?_⟩) (by assumption) ?_
    rotate_left
    · intro w hSw
      try dsimp only at hSw
      go_simp
      try with_reducible rfl
    try simp only [Act.put, List.getElem_toArray, List.getElem_cons_zero, List.getElem_cons_succ, List.setIfInBounds_toArray, List.set_cons_zero, List.set_cons_succ]
    refine wpAnyH_take (i := 18) (v := .int .i64 (v.tries + 1)) rfl (by kernel_rfl) (by kernel_rfl) (by kernel_rfl) (fun _ _ _ h => h) (Or.inl ⟨by rfl, ?_⟩) (by assumption) ?_
    · intro w hSw
      have hc := cell_of hSw.1 5 (v := .int .i64 (v.tries + 1)) rfl
      try dsimp only at hSw
      go_simp
      try with_reducible rfl
    try simp only [Act.put, List.getElem_toArray, List.getElem_cons_zero, List.getElem_cons_succ, List.setIfInBounds_toArray, List.set_cons_zero, List.set_cons_succ]
    refine wpAnyH_take (i := 19) (v := .int .i64 (v.id * 1000000 + (v.tries + 1))) rfl (by kernel_rfl) (by kernel_rfl) (by kernel_rfl) (fun _ _ _ h => h) (Or.inl ⟨by rfl, ?_⟩) (by assumption) ?_
    · intro w hSw
      try dsimp only at hSw
      go_simp
      try with_reducible rfl
    try simp only [Act.put, List.getElem_toArray, List.getElem_cons_zero, List.getElem_cons_succ, List.setIfInBounds_toArray, List.set_cons_zero, List.set_cons_succ]
    refine wpAnyH_take (i := 20) (v := ?_) rfl (by kernel_rfl) (by kernel_rfl) (by kernel_rfl) (fun _ _ _ h => h) (Or.inl ⟨by rfl, ?_⟩) (by assumption) ?_
    rotate_left
    · intro w hSw
      try dsimp only at hSw
      go_simp
      try with_reducible rfl
    try simp only [Act.put, List.getElem_toArray, List.getElem_cons_zero, List.getElem_cons_succ, List.setIfInBounds_toArray, List.set_cons_zero, List.set_cons_succ]
    refine wpAnyH_take (i := 21) (v := .int .i64 v.ord.kind) rfl (by kernel_rfl) (by kernel_rfl) (by kernel_rfl) (fun _ _ _ h => h) (Or.inl ⟨by rfl, ?_⟩) (by assumption) ?_
    · intro w hSw
      have hc := cell_of hSw.2.1 0 (v := .int .i64 v.ord.kind) rfl
      try dsimp only at hSw
      go_simp
      try with_reducible rfl
    try simp only [Act.put, List.getElem_toArray, List.getElem_cons_zero, List.getElem_cons_succ, List.setIfInBounds_toArray, List.set_cons_zero, List.set_cons_succ]
    refine wpAnyH_take (i := 22) (v := ?_) rfl (by kernel_rfl) (by kernel_rfl) (by kernel_rfl) (fun _ _ _ h => h) (Or.inl ⟨by rfl, ?_⟩) (by assumption) ?_
    rotate_left
    · intro w hSw
      try dsimp only at hSw
      go_simp
      try with_reducible rfl
    try simp only [Act.put, List.getElem_toArray, List.getElem_cons_zero, List.getElem_cons_succ, List.setIfInBounds_toArray, List.set_cons_zero, List.set_cons_succ]
    refine wpAnyH_take (i := 23) (v := .int .i64 v.ord.from_) rfl (by kernel_rfl) (by kernel_rfl) (by kernel_rfl) (fun _ _ _ h => h) (Or.inl ⟨by rfl, ?_⟩) (by assumption) ?_
    · intro w hSw
      have hc := cell_of hSw.2.1 1 (v := .int .i64 v.ord.from_) rfl
      try dsimp only at hSw
      go_simp
      try with_reducible rfl
    try simp only [Act.put, List.getElem_toArray, List.getElem_cons_zero, List.getElem_cons_succ, List.setIfInBounds_toArray, List.set_cons_zero, List.set_cons_succ]
    refine wpAnyH_take (i := 24) (v := ?_) rfl (by kernel_rfl) (by kernel_rfl) (by kernel_rfl) (fun _ _ _ h => h) (Or.inl ⟨by rfl, ?_⟩) (by assumption) ?_
    rotate_left
    · intro w hSw
      try dsimp only at hSw
      go_simp
      try with_reducible rfl
    try simp only [Act.put, List.getElem_toArray, List.getElem_cons_zero, List.getElem_cons_succ, List.setIfInBounds_toArray, List.set_cons_zero, List.set_cons_succ]
    refine wpAnyH_take (i := 25) (v := .int .i64 v.ord.most) rfl (by kernel_rfl) (by kernel_rfl) (by kernel_rfl) (fun _ _ _ h => h) (Or.inl ⟨by rfl, ?_⟩) (by assumption) ?_
    · intro w hSw
      have hc := cell_of hSw.2.1 2 (v := .int .i64 v.ord.most) rfl
      try dsimp only at hSw
      go_simp
      try with_reducible rfl
    try simp only [Act.put, List.getElem_toArray, List.getElem_cons_zero, List.getElem_cons_succ, List.setIfInBounds_toArray, List.set_cons_zero, List.set_cons_succ]
    refine wpAnyH_take (i := 27) (v := ?_) rfl (by kernel_rfl) (by kernel_rfl) (by kernel_rfl) (fun _ _ _ h => h) (Or.inl ⟨by rfl, ?_⟩) (by assumption) ?_
    rotate_left
    · intro w hSw
      try dsimp only at hSw
      go_simp
      try with_reducible rfl
    try simp only [Act.put, List.getElem_toArray, List.getElem_cons_zero, List.getElem_cons_succ, List.setIfInBounds_toArray, List.set_cons_zero, List.set_cons_succ]
    refine wpAnyH_take (i := 28) (v := .slice v.ord.da v.ord.dl.length v.ord.dc) rfl (by kernel_rfl) (by kernel_rfl) (by kernel_rfl) (fun _ _ _ h => h) (Or.inl ⟨by rfl, ?_⟩) (by assumption) ?_
    · intro w hSw
      have hc := cell_of hSw.2.1 3 (v := .slice v.ord.da v.ord.dl.length v.ord.dc) rfl
      try dsimp only at hSw
      go_simp
      try with_reducible rfl
    try simp only [Act.put, List.getElem_toArray, List.getElem_cons_zero, List.getElem_cons_succ, List.setIfInBounds_toArray, List.set_cons_zero, List.set_cons_succ]
    refine wpAnyH_ready (rs := [26, 31]) (by kernel_rfl) (by simp) ?_
    refine AllReadyH.cons rfl (fun K hK => ?_) (AllReadyH.cons rfl (fun K hK => ?_) AllReadyH.nil)
    · go_simp
      refine hK.out _ _ ⟨heap_old _ hHeld.1, heap_old _ hHeld.2.1, cell_old _ hHeld.2.2⟩ (fun hHeld => ?_)
      clear hK K
      try simp only [Act.put, List.getElem_toArray, List.getElem_cons_zero, List.getElem_cons_succ, List.setIfInBounds_toArray, List.set_cons_zero, List.set_cons_succ]
      have hL := heap_new y0 (.cells #[] 5)
      replace hk := hk.alloc (.cells #[] 5)
      obtain ⟨L, hLe⟩ : ∃ L, L = y0.heap.size := ⟨_, rfl⟩
      have LM : M ≤ L := by rw [hLe]; exact hsM
      rw [← hLe] at hL ⊢
      clear hLe
      replace hsM : M ≤ (y0.alloc (.cells #[] 5)).heap.size := by have := hk.size; rw [HM.out]; exact this
      generalize y0.alloc (.cells #[] 5) = y1 at *
      refine wpAnyH_ready (rs := [29, 31]) (by kernel_rfl) (by simp) ?_
      refine AllReadyH.cons rfl (fun K hK => ?_) (AllReadyH.cons rfl (fun K hK => ?_) AllReadyH.nil)
      · refine step_app_any (by rfl) _ _ 30 (by rfl) L 5 info5 Try.underlying30 rfl (by decide) (by rfl) (Owns.lit hL (Nat.le_refl _)) (b := v.ord.da) (m := v.ord.dl.length) (c := v.ord.dc) (news := bytes v.ord.dl) (by rfl) (by rw [bytes_length]; omega) ((HD.out.no hk).news) (one_bytes v.ord.dl) (by have := HDL.out; unfold maxLen; omega) (by have := HDL.out; omega) (Nat.le_of_lt (lt_of_block hL)) ?_
        intro na nc y2 ho hkn hmv
        rw [Nat.zero_add, List.nil_append] at ho
        have hkn : Kp (fun j => j = L) y1 y2 := hkn.mono (fun j _ h => Option.some.inj h)
        refine hK.out _ _ ⟨hkn.heap hHeld.1 (by have := HB2.out; omega), hkn.heap hHeld.2.1 (by have := HO2.out; omega), (hkn.cell (p := ⟨g, og + v.at_, none⟩) (World.block_lt_of_cell? _ _ hHeld.2.2) (by show ¬ g = L; have := HG2.out; omega)).trans hHeld.2.2⟩ (fun hHeld => ?_)
        clear hK K
        try simp only [Act.put, List.getElem_toArray, List.getElem_cons_zero, List.getElem_cons_succ, List.setIfInBounds_toArray, List.set_cons_zero, List.set_cons_succ]
        rw [Nat.zero_add]
        replace hsM : M ≤ y2.heap.size := by have := hkn.size; omega
        replace hk : Kp (fun _ => False) w2 y2 := hk.andThen hkn (fun j hj (e : j = L) => by rw [← HM.out] at hj; omega)
        refine wpAnyH_take (i := 30) (v := .agg #[.int .i64 tz, .int .i64 (v.id * 1000000 + (v.tries + 1)), .int .i64 v.ord.kind, .int .i64 0, .int .i64 0, .int .i64 v.ord.from_, .int .i64 v.ord.most, .slice na v.ord.dl.length nc]) rfl (by kernel_rfl) (by kernel_rfl) (by kernel_rfl) (fun _ _ _ h => h) (Or.inl ⟨by rfl, ?_⟩) (by assumption) ?_
        · intro w hSw
          try dsimp only at hSw
          go_simp
          try with_reducible rfl
        try simp only [Act.put, List.getElem_toArray, List.getElem_cons_zero, List.getElem_cons_succ, List.setIfInBounds_toArray, List.set_cons_zero, List.set_cons_succ]
        refine wpAnyH_ready (rs := [31]) (by kernel_rfl) (by simp) ?_
        refine AllReadyH.cons rfl (fun K hK => ?_) AllReadyH.nil
        go_simp
        refine hK.out _ _ ⟨heap_old _ hHeld.1, heap_old _ hHeld.2.1, cell_old _ hHeld.2.2⟩ (fun hHeld => ?_)
        clear hK K
        try simp only [Act.put, List.getElem_toArray, List.getElem_cons_zero, List.getElem_cons_succ, List.setIfInBounds_toArray, List.set_cons_zero, List.set_cons_succ]
        have hC := heap_new y2 (.cells #[.int .i64 0, .int .i64 0, .int .i64 0, .int .i64 0, .int .i64 0, .int .i64 0, .int .i64 0, .slice none 0 0] 82)
        replace hk := hk.alloc (.cells #[.int .i64 0, .int .i64 0, .int .i64 0, .int .i64 0, .int .i64 0, .int .i64 0, .int .i64 0, .slice none 0 0] 82)
        have hoC : ∀ g, blockOf na = some g → g < y2.heap.size := fun g hg => (ho.from hg).2
        replace ho := ho.kp (S := fun _ => False) ((Kp.refl _ _).alloc (.cells #[.int .i64 0, .int .i64 0, .int .i64 0, .int .i64 0, .int .i64 0, .int .i64 0, .int .i64 0, .slice none 0 0] 82)) (fun _ _ h => h)
        obtain ⟨C, hCe⟩ : ∃ C, C = y2.heap.size := ⟨_, rfl⟩
        have CM : M ≤ C := by rw [hCe]; exact hsM
        rw [← hCe] at hC hoC ⊢
        clear hCe
        replace hsM : M ≤ (y2.alloc (.cells #[.int .i64 0, .int .i64 0, .int .i64 0, .int .i64 0, .int .i64 0, .int .i64 0, .int .i64 0, .slice none 0 0] 82)).heap.size := by have := hk.size; rw [HM.out]; exact this
        generalize y2.alloc (.cells #[.int .i64 0, .int .i64 0, .int .i64 0, .int .i64 0, .int .i64 0, .int .i64 0, .int .i64 0, .slice none 0 0] 82) = y3 at *
        have hoC2 : ∀ g, blockOf na = some g → ¬ g = C := fun g hg e => by have := hoC g hg; omega
        refine wpAnyH_ready (rs := [32]) (by kernel_rfl) (by simp) ?_
        refine AllReadyH.cons rfl (fun K hK => ?_) AllReadyH.nil
        refine wp_store_row 82 _ _ rfl C #[.int .i64 tz, .int .i64 (v.id * 1000000 + (v.tries + 1)), .int .i64 v.ord.kind, .int .i64 0, .int .i64 0, .int .i64 v.ord.from_, .int .i64 v.ord.most, .slice na v.ord.dl.length nc] rfl rfl 82 _ hC (by kernel_rfl) rfl (by simp [Value.oneCell']) ?_
        have hkr : Kp (fun j => j = C) y3 (y3.setRow C #[.int .i64 tz, .int .i64 (v.id * 1000000 + (v.tries + 1)), .int .i64 v.ord.kind, .int .i64 0, .int .i64 0, .int .i64 v.ord.from_, .int .i64 v.ord.most, .slice na v.ord.dl.length nc]) := (Kp.refl (fun j => j = C) _).setRow (Or.inl rfl) _
        refine hK.out _ _ ⟨hkr.heap hHeld.1 (by have := HB2.out; omega), hkr.heap hHeld.2.1 (by have := HO2.out; omega), (hkr.cell (p := ⟨g, og + v.at_, none⟩) (World.block_lt_of_cell? _ _ hHeld.2.2) (by show ¬ g = C; have := HG2.out; omega)).trans hHeld.2.2⟩ (fun hHeld => ?_)
        clear hK K
        try simp only [Act.put, List.getElem_toArray, List.getElem_cons_zero, List.getElem_cons_succ, List.setIfInBounds_toArray, List.set_cons_zero, List.set_cons_succ]
        refine wpAnyH_done (by kernel_rfl) ?_ _
        go_wp2_with fail
        go_meet
        case rel =>
          exact ⟨C, na, nc, rfl, by rw [← HTO.out]; exact setRow_heap _ _ _ _ _ _ hC, by rw [← HM.out]; exact CM, ho.row.kp hkr (fun g hg e => hoC2 g hg e), fun g hg => ⟨Nat.le_trans (by rw [← HM.out]; exact LM) (ho.from hg).1, Nat.lt_of_lt_of_le (ho.from hg).2 hkr.size, hoC2 g hg⟩, hk.andThen hkr (fun j hj (e : j = C) => by rw [← HM.out] at hj; omega)⟩
      · go_simp
        refine hK.out _ _ ⟨heap_old _ hHeld.1, heap_old _ hHeld.2.1, cell_old _ hHeld.2.2⟩ (fun hHeld => ?_)
        clear hK K
        try simp only [Act.put, List.getElem_toArray, List.getElem_cons_zero, List.getElem_cons_succ, List.setIfInBounds_toArray, List.set_cons_zero, List.set_cons_succ]
        have hC := heap_new y1 (.cells #[.int .i64 0, .int .i64 0, .int .i64 0, .int .i64 0, .int .i64 0, .int .i64 0, .int .i64 0, .slice none 0 0] 82)
        replace hk := hk.alloc (.cells #[.int .i64 0, .int .i64 0, .int .i64 0, .int .i64 0, .int .i64 0, .int .i64 0, .int .i64 0, .slice none 0 0] 82)
        have hLl := lt_of_block hL
        replace hL := heap_old (.cells #[.int .i64 0, .int .i64 0, .int .i64 0, .int .i64 0, .int .i64 0, .int .i64 0, .int .i64 0, .slice none 0 0] 82) hL
        obtain ⟨C, hCe⟩ : ∃ C, C = y1.heap.size := ⟨_, rfl⟩
        have CM : M ≤ C := by rw [hCe]; exact hsM
        rw [← hCe] at hC hLl ⊢
        clear hCe
        replace hsM : M ≤ (y1.alloc (.cells #[.int .i64 0, .int .i64 0, .int .i64 0, .int .i64 0, .int .i64 0, .int .i64 0, .int .i64 0, .slice none 0 0] 82)).heap.size := by have := hk.size; rw [HM.out]; exact this
        generalize y1.alloc (.cells #[.int .i64 0, .int .i64 0, .int .i64 0, .int .i64 0, .int .i64 0, .int .i64 0, .int .i64 0, .slice none 0 0] 82) = y2 at *
        refine wpAnyH_ready (rs := [29]) (by kernel_rfl) (by simp) ?_
        refine AllReadyH.cons rfl (fun K hK => ?_) AllReadyH.nil
        refine step_app_any (by rfl) _ _ 30 (by rfl) L 5 info5 Try.underlying30 rfl (by decide) (by rfl) (Owns.lit hL (Nat.le_refl _)) (b := v.ord.da) (m := v.ord.dl.length) (c := v.ord.dc) (news := bytes v.ord.dl) (by rfl) (by rw [bytes_length]; omega) ((HD.out.no hk).news) (one_bytes v.ord.dl) (by have := HDL.out; unfold maxLen; omega) (by have := HDL.out; omega) (Nat.le_of_lt (lt_of_block hL)) ?_
        intro na nc y3 ho hkn hmv
        rw [Nat.zero_add, List.nil_append] at ho
        have hkn : Kp (fun j => j = L) y2 y3 := hkn.mono (fun j _ h => Option.some.inj h)
        refine hK.out _ _ ⟨hkn.heap hHeld.1 (by have := HB2.out; omega), hkn.heap hHeld.2.1 (by have := HO2.out; omega), (hkn.cell (p := ⟨g, og + v.at_, none⟩) (World.block_lt_of_cell? _ _ hHeld.2.2) (by show ¬ g = L; have := HG2.out; omega)).trans hHeld.2.2⟩ (fun hHeld => ?_)
        clear hK K
        try simp only [Act.put, List.getElem_toArray, List.getElem_cons_zero, List.getElem_cons_succ, List.setIfInBounds_toArray, List.set_cons_zero, List.set_cons_succ]
        rw [Nat.zero_add]
        have hCl := lt_of_block hC
        have hoC : ∀ g, blockOf na = some g → g ≠ C := fun g hg e => by
          rcases hmv with h | h
          · have h2 : L = g := Option.some.inj (h.symm.trans hg); omega
          · have h2 := Option.some.inj (h.symm.trans hg); omega
        replace hC := hkn.heap hC (by omega)
        replace hsM : M ≤ y3.heap.size := by have := hkn.size; omega
        replace hk : Kp (fun _ => False) w2 y3 := hk.andThen hkn (fun j hj (e : j = L) => by rw [← HM.out] at hj; omega)
        refine wpAnyH_take (i := 30) (v := .agg #[.int .i64 tz, .int .i64 (v.id * 1000000 + (v.tries + 1)), .int .i64 v.ord.kind, .int .i64 0, .int .i64 0, .int .i64 v.ord.from_, .int .i64 v.ord.most, .slice na v.ord.dl.length nc]) rfl (by kernel_rfl) (by kernel_rfl) (by kernel_rfl) (fun _ _ _ h => h) (Or.inl ⟨by rfl, ?_⟩) (by assumption) ?_
        · intro w hSw
          try dsimp only at hSw
          go_simp
          try with_reducible rfl
        try simp only [Act.put, List.getElem_toArray, List.getElem_cons_zero, List.getElem_cons_succ, List.setIfInBounds_toArray, List.set_cons_zero, List.set_cons_succ]
        have hoC2 : ∀ g, blockOf na = some g → ¬ g = C := hoC
        refine wpAnyH_ready (rs := [32]) (by kernel_rfl) (by simp) ?_
        refine AllReadyH.cons rfl (fun K hK => ?_) AllReadyH.nil
        refine wp_store_row 82 _ _ rfl C #[.int .i64 tz, .int .i64 (v.id * 1000000 + (v.tries + 1)), .int .i64 v.ord.kind, .int .i64 0, .int .i64 0, .int .i64 v.ord.from_, .int .i64 v.ord.most, .slice na v.ord.dl.length nc] rfl rfl 82 _ hC (by kernel_rfl) rfl (by simp [Value.oneCell']) ?_
        have hkr : Kp (fun j => j = C) y3 (y3.setRow C #[.int .i64 tz, .int .i64 (v.id * 1000000 + (v.tries + 1)), .int .i64 v.ord.kind, .int .i64 0, .int .i64 0, .int .i64 v.ord.from_, .int .i64 v.ord.most, .slice na v.ord.dl.length nc]) := (Kp.refl (fun j => j = C) _).setRow (Or.inl rfl) _
        refine hK.out _ _ ⟨hkr.heap hHeld.1 (by have := HB2.out; omega), hkr.heap hHeld.2.1 (by have := HO2.out; omega), (hkr.cell (p := ⟨g, og + v.at_, none⟩) (World.block_lt_of_cell? _ _ hHeld.2.2) (by show ¬ g = C; have := HG2.out; omega)).trans hHeld.2.2⟩ (fun hHeld => ?_)
        clear hK K
        try simp only [Act.put, List.getElem_toArray, List.getElem_cons_zero, List.getElem_cons_succ, List.setIfInBounds_toArray, List.set_cons_zero, List.set_cons_succ]
        refine wpAnyH_done (by kernel_rfl) ?_ _
        go_wp2_with fail
        go_meet
        case rel =>
          exact ⟨C, na, nc, rfl, by rw [← HTO.out]; exact setRow_heap _ _ _ _ _ _ hC, by rw [← HM.out]; exact CM, ho.row.kp hkr (fun g hg e => hoC2 g hg e), fun g hg => ⟨Nat.le_trans (by rw [← HM.out]; exact LM) (ho.from hg).1, Nat.lt_of_lt_of_le (ho.from hg).2 hkr.size, hoC2 g hg⟩, hk.andThen hkr (fun j hj (e : j = C) => by rw [← HM.out] at hj; omega)⟩
    · go_simp
      refine hK.out _ _ ⟨heap_old _ hHeld.1, heap_old _ hHeld.2.1, cell_old _ hHeld.2.2⟩ (fun hHeld => ?_)
      clear hK K
      try simp only [Act.put, List.getElem_toArray, List.getElem_cons_zero, List.getElem_cons_succ, List.setIfInBounds_toArray, List.set_cons_zero, List.set_cons_succ]
      have hC := heap_new y0 (.cells #[.int .i64 0, .int .i64 0, .int .i64 0, .int .i64 0, .int .i64 0, .int .i64 0, .int .i64 0, .slice none 0 0] 82)
      replace hk := hk.alloc (.cells #[.int .i64 0, .int .i64 0, .int .i64 0, .int .i64 0, .int .i64 0, .int .i64 0, .int .i64 0, .slice none 0 0] 82)
      obtain ⟨C, hCe⟩ : ∃ C, C = y0.heap.size := ⟨_, rfl⟩
      have CM : M ≤ C := by rw [hCe]; exact hsM
      rw [← hCe] at hC ⊢
      clear hCe
      replace hsM : M ≤ (y0.alloc (.cells #[.int .i64 0, .int .i64 0, .int .i64 0, .int .i64 0, .int .i64 0, .int .i64 0, .int .i64 0, .slice none 0 0] 82)).heap.size := by have := hk.size; rw [HM.out]; exact this
      generalize y0.alloc (.cells #[.int .i64 0, .int .i64 0, .int .i64 0, .int .i64 0, .int .i64 0, .int .i64 0, .int .i64 0, .slice none 0 0] 82) = y1 at *
      refine wpAnyH_ready (rs := [26]) (by kernel_rfl) (by simp) ?_
      refine AllReadyH.cons rfl (fun K hK => ?_) AllReadyH.nil
      go_simp
      refine hK.out _ _ ⟨heap_old _ hHeld.1, heap_old _ hHeld.2.1, cell_old _ hHeld.2.2⟩ (fun hHeld => ?_)
      clear hK K
      try simp only [Act.put, List.getElem_toArray, List.getElem_cons_zero, List.getElem_cons_succ, List.setIfInBounds_toArray, List.set_cons_zero, List.set_cons_succ]
      have hL := heap_new y1 (.cells #[] 5)
      replace hk := hk.alloc (.cells #[] 5)
      have hCl := lt_of_block hC
      replace hC := heap_old (.cells #[] 5) hC
      obtain ⟨L, hLe⟩ : ∃ L, L = y1.heap.size := ⟨_, rfl⟩
      have LM : M ≤ L := by rw [hLe]; exact hsM
      rw [← hLe] at hL hCl ⊢
      clear hLe
      replace hsM : M ≤ (y1.alloc (.cells #[] 5)).heap.size := by have := hk.size; rw [HM.out]; exact this
      generalize y1.alloc (.cells #[] 5) = y2 at *
      refine wpAnyH_ready (rs := [29]) (by kernel_rfl) (by simp) ?_
      refine AllReadyH.cons rfl (fun K hK => ?_) AllReadyH.nil
      refine step_app_any (by rfl) _ _ 30 (by rfl) L 5 info5 Try.underlying30 rfl (by decide) (by rfl) (Owns.lit hL (Nat.le_refl _)) (b := v.ord.da) (m := v.ord.dl.length) (c := v.ord.dc) (news := bytes v.ord.dl) (by rfl) (by rw [bytes_length]; omega) ((HD.out.no hk).news) (one_bytes v.ord.dl) (by have := HDL.out; unfold maxLen; omega) (by have := HDL.out; omega) (Nat.le_of_lt (lt_of_block hL)) ?_
      intro na nc y3 ho hkn hmv
      rw [Nat.zero_add, List.nil_append] at ho
      have hkn : Kp (fun j => j = L) y2 y3 := hkn.mono (fun j _ h => Option.some.inj h)
      refine hK.out _ _ ⟨hkn.heap hHeld.1 (by have := HB2.out; omega), hkn.heap hHeld.2.1 (by have := HO2.out; omega), (hkn.cell (p := ⟨g, og + v.at_, none⟩) (World.block_lt_of_cell? _ _ hHeld.2.2) (by show ¬ g = L; have := HG2.out; omega)).trans hHeld.2.2⟩ (fun hHeld => ?_)
      clear hK K
      try simp only [Act.put, List.getElem_toArray, List.getElem_cons_zero, List.getElem_cons_succ, List.setIfInBounds_toArray, List.set_cons_zero, List.set_cons_succ]
      rw [Nat.zero_add]
      have hCl := lt_of_block hC
      have hoC : ∀ g, blockOf na = some g → g ≠ C := fun g hg e => by
        rcases hmv with h | h
        · have h2 : L = g := Option.some.inj (h.symm.trans hg); omega
        · have h2 := Option.some.inj (h.symm.trans hg); omega
      replace hC := hkn.heap hC (by omega)
      replace hsM : M ≤ y3.heap.size := by have := hkn.size; omega
      replace hk : Kp (fun _ => False) w2 y3 := hk.andThen hkn (fun j hj (e : j = L) => by rw [← HM.out] at hj; omega)
      refine wpAnyH_take (i := 30) (v := .agg #[.int .i64 tz, .int .i64 (v.id * 1000000 + (v.tries + 1)), .int .i64 v.ord.kind, .int .i64 0, .int .i64 0, .int .i64 v.ord.from_, .int .i64 v.ord.most, .slice na v.ord.dl.length nc]) rfl (by kernel_rfl) (by kernel_rfl) (by kernel_rfl) (fun _ _ _ h => h) (Or.inl ⟨by rfl, ?_⟩) (by assumption) ?_
      · intro w hSw
        try dsimp only at hSw
        go_simp
        try with_reducible rfl
      try simp only [Act.put, List.getElem_toArray, List.getElem_cons_zero, List.getElem_cons_succ, List.setIfInBounds_toArray, List.set_cons_zero, List.set_cons_succ]
      have hoC2 : ∀ g, blockOf na = some g → ¬ g = C := hoC
      refine wpAnyH_ready (rs := [32]) (by kernel_rfl) (by simp) ?_
      refine AllReadyH.cons rfl (fun K hK => ?_) AllReadyH.nil
      refine wp_store_row 82 _ _ rfl C #[.int .i64 tz, .int .i64 (v.id * 1000000 + (v.tries + 1)), .int .i64 v.ord.kind, .int .i64 0, .int .i64 0, .int .i64 v.ord.from_, .int .i64 v.ord.most, .slice na v.ord.dl.length nc] rfl rfl 82 _ hC (by kernel_rfl) rfl (by simp [Value.oneCell']) ?_
      have hkr : Kp (fun j => j = C) y3 (y3.setRow C #[.int .i64 tz, .int .i64 (v.id * 1000000 + (v.tries + 1)), .int .i64 v.ord.kind, .int .i64 0, .int .i64 0, .int .i64 v.ord.from_, .int .i64 v.ord.most, .slice na v.ord.dl.length nc]) := (Kp.refl (fun j => j = C) _).setRow (Or.inl rfl) _
      refine hK.out _ _ ⟨hkr.heap hHeld.1 (by have := HB2.out; omega), hkr.heap hHeld.2.1 (by have := HO2.out; omega), (hkr.cell (p := ⟨g, og + v.at_, none⟩) (World.block_lt_of_cell? _ _ hHeld.2.2) (by show ¬ g = C; have := HG2.out; omega)).trans hHeld.2.2⟩ (fun hHeld => ?_)
      clear hK K
      try simp only [Act.put, List.getElem_toArray, List.getElem_cons_zero, List.getElem_cons_succ, List.setIfInBounds_toArray, List.set_cons_zero, List.set_cons_succ]
      refine wpAnyH_done (by kernel_rfl) ?_ _
      go_wp2_with fail
      go_meet
      case rel =>
        exact ⟨C, na, nc, rfl, by rw [← HTO.out]; exact setRow_heap _ _ _ _ _ _ hC, by rw [← HM.out]; exact CM, ho.row.kp hkr (fun g hg e => hoC2 g hg e), fun g hg => ⟨Nat.le_trans (by rw [← HM.out]; exact LM) (ho.from hg).1, Nat.lt_of_lt_of_le (ho.from hg).2 hkr.size, hoC2 g hg⟩, hk.andThen hkr (fun j hj (e : j = C) => by rw [← HM.out] at hj; omega)⟩
  case rest =>
    obtain ⟨A, da, dc, rfl, hA, hA1, hda, hfr, hkA⟩ := hcut
    have kc := KB.out.no hkA
    have HAX := Lib.hid hA1
    have HDA := Lib.hid hda
    have HFR := Lib.hid hfr
    have HKC := Lib.hid (HKA.out.trans hkA)
    have KC := Lib.hid kc
    have HA0 := Lib.hid hA
    have HOW := Lib.hid (hkA.heap HON.out (fun h => h))
    obtain ⟨tz, hto⟩ : ∃ tz, tz = v.sl.getD v.at_ 0 := ⟨_, rfl⟩
    rw [← hto] at HA0
    have HTO := Lib.hid hto
    have c1 := cell_of HOW.out 0 (v := .int .i64 v.ord.kind) rfl
    clear hA hA1 hda hfr hkA kc hto
    go_upto_if 51 with fail
    go_cut [3] (fun q w' => q = .pointer (some ⟨A, 0, none⟩) ∧ w'.heap[A]? = some (.cells #[.int .i64 tz, .int .i64 (v.id * 1000000 + (v.tries + 1)), .int .i64 v.ord.kind, .int .i64 (if v.ord.kind = 2 then v.session else 0), .int .i64 (if v.ord.kind = 2 then v.seq else 0), .int .i64 v.ord.from_, .int .i64 v.ord.most, .slice da v.ord.dl.length dc] 82 (0, 0)) ∧ Kp (fun j => j = A) wc w')
    case first =>
      by_cases h2 : v.ord.kind = 2
      · have H2 := Lib.hid h2
        have hkb : (v.ord.kind == 2) = true := by simp [h2]
        have e1 := cell_of KC.out.blk 3 (v := .int .i64 v.session) rfl
        have e2 := cell_of KC.out.blk 4 (v := .int .i64 v.seq) rfl
        have a2 := cell_of HA0.out 3 (v := .int .i64 0) rfl
        have a3 := cell_of HA0.out 4 (v := .int .i64 0) rfl
        have f2 := free_of HA0.out 3
        have f3 := free_of HA0.out 4
        have hAb : ¬ b = A := fun e => by have := lt_of_block KB.out.blk; have := HAX.out; omega
        have hbA : ¬ A = b := fun e => hAb e.symm
        clear h2
        go_wp2_with fail
        go_meet
        case rel => exact ⟨rfl, by rw [if_pos H2.out, if_pos H2.out]; exact heap_set (heap_set HA0.out 3 _) 4 _, ((Kp.refl (fun j => j = A) wc).setCell (p := ⟨A, 3, none⟩) (Or.inl rfl) _).setCell (p := ⟨A, 4, none⟩) (Or.inl rfl) _⟩
      · have H2 := Lib.hid h2
        have hkb : (v.ord.kind == 2) = false := by simpa using h2
        clear h2
        go_wp2_with fail
        go_meet
        case rel => exact ⟨rfl, by rw [if_neg H2.out, if_neg H2.out]; exact HA0.out, Kp.refl _ _⟩
    case rest =>
      obtain ⟨rfl, hA, hkA⟩ := hcut
      have k2 := KC.out.kp hkA (fun j hj (e : j = A) => by have := (KB.out.all hj).2; have := HAX.out; omega) (fun j (e : j = A) => by have := HAX.out; have := KB.out.ge; have := lt_of_block KB.out.blk; omega)
      have hw12 := HKA.out.size
      have hs0 : w.heap.size ≤ w1.heap.size := HK1.out.size
      have hkw : Kp (fun j => w1.heap.size ≤ j) w1 wc := HKC.out.no.trans (hkA.mono (fun j _ (e : j = A) => by have := HAX.out; omega))
      obtain ⟨S, hS⟩ : ∃ S, S = if v.ord.kind = 2 then v.session else 0 := ⟨_, rfl⟩
      obtain ⟨Q, hQ⟩ : ∃ Q, Q = if v.ord.kind = 2 then v.seq else 0 := ⟨_, rfl⟩
      rw [← hS, ← hQ] at hA
      have HS := Lib.hid hS
      have HQ := Lib.hid hQ
      have K2 := Lib.hid k2
      have HAA := Lib.hid hA
      have HAB := Lib.hid (show A ≠ b from fun e => by have := lt_of_block KB.out.blk; have := HAX.out; omega)
      have HAC := Lib.hid (show ¬ some A = blockOf v.ca from fun e => by have := (KB.out.own.from e.symm).2; have := HAX.out; omega)
      have HKW := Lib.hid hkw
      have HD2 := Lib.hid (HDA.out.kp hkA (fun g hg e => (HFR.out g hg).2.2 e))
      have HF2 := Lib.hid (show ∀ g, blockOf da = some g → w1.heap.size ≤ g ∧ g < wc.heap.size from fun g hg => ⟨by have := (HFR.out g hg).1; omega, Nat.lt_of_lt_of_le (HFR.out g hg).2.1 hkA.size⟩)
      have HBW := Lib.hid (show B ≤ wc.heap.size by have := hkw.size; omega)
      clear hA hkA k2 hS hQ c1 hkw
      go_upto_region 7 with fail
      refine wp_region_held_drew (S := fun w' => w'.heap[A]? = some (.cells #[.int .i64 tz, .int .i64 (v.id * 1000000 + (v.tries + 1)), .int .i64 v.ord.kind, .int .i64 S, .int .i64 Q, .int .i64 v.ord.from_, .int .i64 v.ord.most, .slice da v.ord.dl.length dc] 82 (0, 0))) (by kernel_rfl) HAA.out (fun hHeld => ?_)
      have hbk : wc.drew.heap[b]? = some (.cells (more v).rcells 76 (0, 0)) := K2.out.blk
      have hk : Kp (fun _ => False) wc wc.drew := (Kp.refl _ _).drew
      generalize wc.drew = y0 at hHeld hbk hk ⊢
      refine wpAnyH_take (i := 0) (v := ?_) rfl (by kernel_rfl) (by kernel_rfl) (by kernel_rfl) (fun _ _ _ h => h) (Or.inl ⟨by rfl, ?_⟩) (by assumption) ?_
      rotate_left
      · intro w hSw
        try dsimp only at hSw
        go_simp
        try with_reducible rfl
      try simp only [Act.put, List.getElem_toArray, List.getElem_cons_zero, List.getElem_cons_succ, List.setIfInBounds_toArray, List.set_cons_zero, List.set_cons_succ]
      refine wpAnyH_take (i := 1) (v := ?_) rfl (by kernel_rfl) (by kernel_rfl) (by kernel_rfl) (fun _ _ _ h => h) (Or.inl ⟨by rfl, ?_⟩) (by assumption) ?_
      rotate_left
      · intro w hSw
        try dsimp only at hSw
        go_simp
        try with_reducible rfl
      try simp only [Act.put, List.getElem_toArray, List.getElem_cons_zero, List.getElem_cons_succ, List.setIfInBounds_toArray, List.set_cons_zero, List.set_cons_succ]
      refine wpAnyH_take (i := 2) (v := ?_) rfl (by kernel_rfl) (by kernel_rfl) (by kernel_rfl) (fun _ _ _ h => h) (Or.inl ⟨by rfl, ?_⟩) (by assumption) ?_
      rotate_left
      · intro w hSw
        try dsimp only at hSw
        go_simp
        try with_reducible rfl
      try simp only [Act.put, List.getElem_toArray, List.getElem_cons_zero, List.getElem_cons_succ, List.setIfInBounds_toArray, List.set_cons_zero, List.set_cons_succ]
      refine wpAnyH_take (i := 3) (v := ?_) rfl (by kernel_rfl) (by kernel_rfl) (by kernel_rfl) (fun _ _ _ h => h) (Or.inl ⟨by rfl, ?_⟩) (by assumption) ?_
      rotate_left
      · intro w hSw
        try dsimp only at hSw
        go_simp
        try with_reducible rfl
      try simp only [Act.put, List.getElem_toArray, List.getElem_cons_zero, List.getElem_cons_succ, List.setIfInBounds_toArray, List.set_cons_zero, List.set_cons_succ]
      refine wpAnyH_take (i := 5) (v := .agg #[.int .i64 tz, .int .i64 (v.id * 1000000 + (v.tries + 1)), .int .i64 v.ord.kind, .int .i64 S, .int .i64 Q, .int .i64 v.ord.from_, .int .i64 v.ord.most, .slice da v.ord.dl.length dc]) rfl (by kernel_rfl) (by kernel_rfl) (by kernel_rfl) (fun _ _ _ h => h) (Or.inl ⟨by rfl, ?_⟩) (by assumption) ?_
      · intro w hSw
        have hc0 := cell_of hSw 0 (v := .int .i64 tz) rfl
        have hc1 := cell_of hSw 1 (v := .int .i64 (v.id * 1000000 + (v.tries + 1))) rfl
        have hc2 := cell_of hSw 2 (v := .int .i64 v.ord.kind) rfl
        have hc3 := cell_of hSw 3 (v := .int .i64 S) rfl
        have hc4 := cell_of hSw 4 (v := .int .i64 Q) rfl
        have hc5 := cell_of hSw 5 (v := .int .i64 v.ord.from_) rfl
        have hc6 := cell_of hSw 6 (v := .int .i64 v.ord.most) rfl
        have hc7 := cell_of hSw 7 (v := .slice da v.ord.dl.length dc) rfl
        try dsimp only at hSw
        go_simp
        try with_reducible rfl
      try simp only [Act.put, List.getElem_toArray, List.getElem_cons_zero, List.getElem_cons_succ, List.setIfInBounds_toArray, List.set_cons_zero, List.set_cons_succ]
      refine wpAnyH_ready (rs := [4, 6]) (by kernel_rfl) (by simp) ?_
      refine AllReadyH.cons rfl (fun K hK => ?_) (AllReadyH.cons rfl (fun K hK => ?_) AllReadyH.nil)
      · have d19 : y0.cell? ⟨b, 19, none⟩ = some (.slice v.ca v.cl.length v.cc) := cell_of hbk 19 rfl
        go_simp
        refine hK.out _ _ hHeld (fun hHeld => ?_)
        clear hK K d19
        try simp only [Act.put, List.getElem_toArray, List.getElem_cons_zero, List.getElem_cons_succ, List.setIfInBounds_toArray, List.set_cons_zero, List.set_cons_succ]
        refine wpAnyH_ready (rs := [6]) (by kernel_rfl) (by simp) ?_
        refine AllReadyH.cons rfl (fun K hK => ?_) AllReadyH.nil
        go_simp
        refine hK.out _ _ (heap_old _ hHeld) (fun hHeld => ?_)
        clear hK K
        try simp only [Act.put, List.getElem_toArray, List.getElem_cons_zero, List.getElem_cons_succ, List.setIfInBounds_toArray, List.set_cons_zero, List.set_cons_succ]
        have hP := heap_new y0 (.cells #[.int .i64 tz, .int .i64 (v.id * 1000000 + (v.tries + 1)), .int .i64 v.ord.kind, .int .i64 S, .int .i64 Q, .int .i64 v.ord.from_, .int .i64 v.ord.most, .slice da v.ord.dl.length dc] 82)
        replace hbk := heap_old (.cells #[.int .i64 tz, .int .i64 (v.id * 1000000 + (v.tries + 1)), .int .i64 v.ord.kind, .int .i64 S, .int .i64 Q, .int .i64 v.ord.from_, .int .i64 v.ord.most, .slice da v.ord.dl.length dc] 82) hbk
        replace hk := hk.alloc (.cells #[.int .i64 tz, .int .i64 (v.id * 1000000 + (v.tries + 1)), .int .i64 v.ord.kind, .int .i64 S, .int .i64 Q, .int .i64 v.ord.from_, .int .i64 v.ord.most, .slice da v.ord.dl.length dc] 82)
        generalize hPe : y0.heap.size = P at *
        clear hPe
        generalize y0.alloc (.cells #[.int .i64 tz, .int .i64 (v.id * 1000000 + (v.tries + 1)), .int .i64 v.ord.kind, .int .i64 S, .int .i64 Q, .int .i64 v.ord.from_, .int .i64 v.ord.most, .slice da v.ord.dl.length dc] 82) = y1 at *
        refine wpAnyH_ready (rs := [7]) (by kernel_rfl) (by simp) ?_
        refine AllReadyH.cons rfl (fun K hK => ?_) AllReadyH.nil
        refine step_app_any (by rfl) _ _ 74 (by rfl) B 82 info82z Try.underlying74 rfl (by decide) (by rfl) ((K2.out.own).kp hk (fun _ _ h => h)) (b := some ⟨P, 0, none⟩) (m := 1) (c := 1) (news := (#[.int .i64 tz, .int .i64 (v.id * 1000000 + (v.tries + 1)), .int .i64 v.ord.kind, .int .i64 S, .int .i64 Q, .int .i64 v.ord.from_, .int .i64 v.ord.most, .slice da v.ord.dl.length dc] : Array Value).toList) (by rfl) (by rfl) (Row.news (row_block hP)) (by simp [Value.oneCell']) (by have e : (more v).cl = v.cl := rfl; rw [e]; unfold maxLen; omega) (by have e : (more v).cl = v.cl := rfl; rw [e]; omega) (by have := hk.size; have := HBW.out; omega) ?_
        intro ca' cc' w5 ho5 hkn hmv
        have e9 : (more v).cl = v.cl := rfl
        rw [e9] at ho5
        have hk5 : Kp (fun j => some j = blockOf v.ca) wc w5 := (hk.mono (S' := fun j => some j = blockOf v.ca) (fun _ _ h => h.elim)).trans (hkn.mono (fun _ _ h => h))
        have hA5 := hkn.heap hHeld (fun e => HAC.out e)
        have hb5 := hkn.heap hbk (fun e => K2.out.ne e.symm)
        refine hK.out _ _ hA5 (fun hHeld2 => ?_)
        clear hK K
        try simp only [Act.put, List.getElem_toArray, List.getElem_cons_zero, List.getElem_cons_succ, List.setIfInBounds_toArray, List.set_cons_zero, List.set_cons_succ]
        refine wpAnyH_take (i := 8) (v := ?_) rfl (by kernel_rfl) (by kernel_rfl) (by kernel_rfl) (fun _ _ _ h => h) (Or.inl ⟨by rfl, ?_⟩) (by assumption) ?_
        rotate_left
        · intro w hSw
          try dsimp only at hSw
          go_simp
          try with_reducible rfl
        try simp only [Act.put, List.getElem_toArray, List.getElem_cons_zero, List.getElem_cons_succ, List.setIfInBounds_toArray, List.set_cons_zero, List.set_cons_succ]
        refine wpAnyH_take (i := 9) (v := ?_) rfl (by kernel_rfl) (by kernel_rfl) (by kernel_rfl) (fun _ _ _ h => h) (Or.inl ⟨by rfl, ?_⟩) (by assumption) ?_
        rotate_left
        · intro w hSw
          try dsimp only at hSw
          go_simp
          try with_reducible rfl
        try simp only [Act.put, List.getElem_toArray, List.getElem_cons_zero, List.getElem_cons_succ, List.setIfInBounds_toArray, List.set_cons_zero, List.set_cons_succ]
        refine wpAnyH_ready (rs := [10]) (by kernel_rfl) (by simp) ?_
        refine AllReadyH.cons rfl (fun K hK => ?_) AllReadyH.nil
        have f19 := free_of hb5 19
        have c19 := cell_of hb5 19 (v := .slice v.ca v.cl.length v.cc) rfl
        go_simp
        refine hK.out _ _ (heap_set_other _ _ hHeld2 HAB.out) (fun hHeld3 => ?_)
        clear hK K f19 c19
        try simp only [Act.put, List.getElem_toArray, List.getElem_cons_zero, List.getElem_cons_succ, List.setIfInBounds_toArray, List.set_cons_zero, List.set_cons_succ]
        refine wpAnyH_done (by kernel_rfl) ?_ _
        go_wp2
        go_end0
        refine ⟨rfl, ?_⟩
        obtain ⟨R', h1, h2, h3, h4⟩ := rask_end (u := more v) (q := callOf (more v) da dc) HK1.out K1.out HKW.out K2.out HD2.out HF2.out hB hk5 (by have e : (callOf (more v) da dc).cells = (#[.int .i64 tz, .int .i64 (v.id * 1000000 + (v.tries + 1)), .int .i64 v.ord.kind, .int .i64 S, .int .i64 Q, .int .i64 v.ord.from_, .int .i64 v.ord.most, .slice da v.ord.dl.length dc] : Array Value).toList := (by rw [HTO.out, HS.out, HQ.out]; rfl); rw [e]; exact ho5) (hmv.imp_right (fun e g hg => by have e2 := e.symm.trans hg; have e3 := Option.some.inj e2; have := hk.size; omega))
        first | exact ⟨da, dc, R', ca', cc', h1, h2, h3, h4⟩ | exact ⟨da, dc, R', ca', ⟨cc', h1⟩, h2, h3, h4⟩
      · go_simp
        refine hK.out _ _ (heap_old _ hHeld) (fun hHeld => ?_)
        clear hK K
        try simp only [Act.put, List.getElem_toArray, List.getElem_cons_zero, List.getElem_cons_succ, List.setIfInBounds_toArray, List.set_cons_zero, List.set_cons_succ]
        have hP := heap_new y0 (.cells #[.int .i64 tz, .int .i64 (v.id * 1000000 + (v.tries + 1)), .int .i64 v.ord.kind, .int .i64 S, .int .i64 Q, .int .i64 v.ord.from_, .int .i64 v.ord.most, .slice da v.ord.dl.length dc] 82)
        replace hbk := heap_old (.cells #[.int .i64 tz, .int .i64 (v.id * 1000000 + (v.tries + 1)), .int .i64 v.ord.kind, .int .i64 S, .int .i64 Q, .int .i64 v.ord.from_, .int .i64 v.ord.most, .slice da v.ord.dl.length dc] 82) hbk
        replace hk := hk.alloc (.cells #[.int .i64 tz, .int .i64 (v.id * 1000000 + (v.tries + 1)), .int .i64 v.ord.kind, .int .i64 S, .int .i64 Q, .int .i64 v.ord.from_, .int .i64 v.ord.most, .slice da v.ord.dl.length dc] 82)
        generalize hPe : y0.heap.size = P at *
        clear hPe
        generalize y0.alloc (.cells #[.int .i64 tz, .int .i64 (v.id * 1000000 + (v.tries + 1)), .int .i64 v.ord.kind, .int .i64 S, .int .i64 Q, .int .i64 v.ord.from_, .int .i64 v.ord.most, .slice da v.ord.dl.length dc] 82) = y1 at *
        refine wpAnyH_ready (rs := [4]) (by kernel_rfl) (by simp) ?_
        refine AllReadyH.cons rfl (fun K hK => ?_) AllReadyH.nil
        have d19 : y1.cell? ⟨b, 19, none⟩ = some (.slice v.ca v.cl.length v.cc) := cell_of hbk 19 rfl
        go_simp
        refine hK.out _ _ hHeld (fun hHeld => ?_)
        clear hK K d19
        try simp only [Act.put, List.getElem_toArray, List.getElem_cons_zero, List.getElem_cons_succ, List.setIfInBounds_toArray, List.set_cons_zero, List.set_cons_succ]
        refine wpAnyH_ready (rs := [7]) (by kernel_rfl) (by simp) ?_
        refine AllReadyH.cons rfl (fun K hK => ?_) AllReadyH.nil
        refine step_app_any (by rfl) _ _ 74 (by rfl) B 82 info82z Try.underlying74 rfl (by decide) (by rfl) ((K2.out.own).kp hk (fun _ _ h => h)) (b := some ⟨P, 0, none⟩) (m := 1) (c := 1) (news := (#[.int .i64 tz, .int .i64 (v.id * 1000000 + (v.tries + 1)), .int .i64 v.ord.kind, .int .i64 S, .int .i64 Q, .int .i64 v.ord.from_, .int .i64 v.ord.most, .slice da v.ord.dl.length dc] : Array Value).toList) (by rfl) (by rfl) (Row.news (row_block hP)) (by simp [Value.oneCell']) (by have e : (more v).cl = v.cl := rfl; rw [e]; unfold maxLen; omega) (by have e : (more v).cl = v.cl := rfl; rw [e]; omega) (by have := hk.size; have := HBW.out; omega) ?_
        intro ca' cc' w5 ho5 hkn hmv
        have e9 : (more v).cl = v.cl := rfl
        rw [e9] at ho5
        have hk5 : Kp (fun j => some j = blockOf v.ca) wc w5 := (hk.mono (S' := fun j => some j = blockOf v.ca) (fun _ _ h => h.elim)).trans (hkn.mono (fun _ _ h => h))
        have hA5 := hkn.heap hHeld (fun e => HAC.out e)
        have hb5 := hkn.heap hbk (fun e => K2.out.ne e.symm)
        refine hK.out _ _ hA5 (fun hHeld2 => ?_)
        clear hK K
        try simp only [Act.put, List.getElem_toArray, List.getElem_cons_zero, List.getElem_cons_succ, List.setIfInBounds_toArray, List.set_cons_zero, List.set_cons_succ]
        refine wpAnyH_take (i := 8) (v := ?_) rfl (by kernel_rfl) (by kernel_rfl) (by kernel_rfl) (fun _ _ _ h => h) (Or.inl ⟨by rfl, ?_⟩) (by assumption) ?_
        rotate_left
        · intro w hSw
          try dsimp only at hSw
          go_simp
          try with_reducible rfl
        try simp only [Act.put, List.getElem_toArray, List.getElem_cons_zero, List.getElem_cons_succ, List.setIfInBounds_toArray, List.set_cons_zero, List.set_cons_succ]
        refine wpAnyH_take (i := 9) (v := ?_) rfl (by kernel_rfl) (by kernel_rfl) (by kernel_rfl) (fun _ _ _ h => h) (Or.inl ⟨by rfl, ?_⟩) (by assumption) ?_
        rotate_left
        · intro w hSw
          try dsimp only at hSw
          go_simp
          try with_reducible rfl
        try simp only [Act.put, List.getElem_toArray, List.getElem_cons_zero, List.getElem_cons_succ, List.setIfInBounds_toArray, List.set_cons_zero, List.set_cons_succ]
        refine wpAnyH_ready (rs := [10]) (by kernel_rfl) (by simp) ?_
        refine AllReadyH.cons rfl (fun K hK => ?_) AllReadyH.nil
        have f19 := free_of hb5 19
        have c19 := cell_of hb5 19 (v := .slice v.ca v.cl.length v.cc) rfl
        go_simp
        refine hK.out _ _ (heap_set_other _ _ hHeld2 HAB.out) (fun hHeld3 => ?_)
        clear hK K f19 c19
        try simp only [Act.put, List.getElem_toArray, List.getElem_cons_zero, List.getElem_cons_succ, List.setIfInBounds_toArray, List.set_cons_zero, List.set_cons_succ]
        refine wpAnyH_done (by kernel_rfl) ?_ _
        go_wp2
        go_end0
        refine ⟨rfl, ?_⟩
        obtain ⟨R', h1, h2, h3, h4⟩ := rask_end (u := more v) (q := callOf (more v) da dc) HK1.out K1.out HKW.out K2.out HD2.out HF2.out hB hk5 (by have e : (callOf (more v) da dc).cells = (#[.int .i64 tz, .int .i64 (v.id * 1000000 + (v.tries + 1)), .int .i64 v.ord.kind, .int .i64 S, .int .i64 Q, .int .i64 v.ord.from_, .int .i64 v.ord.most, .slice da v.ord.dl.length dc] : Array Value).toList := (by rw [HTO.out, HS.out, HQ.out]; rfl); rw [e]; exact ho5) (hmv.imp_right (fun e g hg => by have e2 := e.symm.trans hg; have e3 := Option.some.inj e2; have := hk.size; omega))
        first | exact ⟨da, dc, R', ca', cc', h1, h2, h3, h4⟩ | exact ⟨da, dc, R', ca', ⟨cc', h1⟩, h2, h3, h4⟩
end Go.Proofs.Ytjhefbkigmamfaa
