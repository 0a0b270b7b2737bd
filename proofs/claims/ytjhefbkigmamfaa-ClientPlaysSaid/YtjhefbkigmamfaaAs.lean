/-
  ask, walked once: one call more. Where the counts are few.
-/
import Derived.Test.YtjhefbkigmamfaaAp
import Derived.Deep.DeepCutAuto
import Derived.Deep.RegionHeld3
namespace Go.Proofs.Ytjhefbkigmamfaa
open Go.ChangeShapes Go.WideShapes Go.ChangeAt Go.RowKit
set_option linter.unusedVariables false

theorem clone_bytes {w : World} {a : Option Addr} {zs : List Int} (hr : Row w a (bytes zs)) (hm : zs.length ≤ 140737488355328) (c : Nat) :
    Calls Try.prog 29 #[.slice a zs.length c] w fun e w' => ∃ o co, e = .returned (.slice o zs.length co) ∧ Owns w' w.heap.size 5 1 o zs.length co (bytes zs) ∧ Kp (fun _ => False) w w' := by
  have h := clone29 hr (one_bytes zs) (by rw [bytes_length]; omega) c
  rw [bytes_length] at h
  exact h
/-- The call that a client asks. -/
def callOf (v : CV) (da : Option Addr) (dc : Nat) : CallV := ⟨v.sl.getD v.at_ 0, v.id * 1000000 + v.tries, v.ord.kind, if v.ord.kind = 2 then v.session else 0, if v.ord.kind = 2 then v.seq else 0, v.ord.from_, v.ord.most, da, v.ord.dl, dc⟩
/-- Counted up, and nothing passed. -/
def more (v : CV) : CV := { v with tries := v.tries + 1, passed := 0 }

theorem cell_far {w : World} {p q : Addr} {u x : Value} (h : w.cell? p = some x) (hn : p.block ≠ q.block) : (w.setCell q u).cell? p = some x :=
  (World.cell?_of_block (w := w) (Below.heap_setCell w q u p.block hn)).trans h
theorem set7 {w : World} {A : Nat} (h : w.heap[A]? = some (.cells #[.int .i64 0, .int .i64 0, .int .i64 0, .int .i64 0, .int .i64 0, .int .i64 0, .slice none 0 0] 38 (0, 0))) (x0 x1 x2 x3 x4 x5 x6 : Value) :
    (((((((w.setCell ⟨A, 0, none⟩ x0).setCell ⟨A, 1, none⟩ x1).setCell ⟨A, 2, none⟩ x2).setCell ⟨A, 3, none⟩ x3).setCell ⟨A, 4, none⟩ x4).setCell ⟨A, 5, none⟩ x5).setCell ⟨A, 6, none⟩ x6).heap[A]? = some (.cells #[x0, x1, x2, x3, x4, x5, x6] 38 (0, 0)) ∧ Kp (fun j => j = A) w (((((((w.setCell ⟨A, 0, none⟩ x0).setCell ⟨A, 1, none⟩ x1).setCell ⟨A, 2, none⟩ x2).setCell ⟨A, 3, none⟩ x3).setCell ⟨A, 4, none⟩ x4).setCell ⟨A, 5, none⟩ x5).setCell ⟨A, 6, none⟩ x6) :=
  ⟨(heap_set (heap_set (heap_set (heap_set (heap_set (heap_set (heap_set h 0 x0) 1 x1) 2 x2) 3 x3) 4 x4) 5 x5) 6 x6), ((((((((Kp.refl (fun j => j = A) w).setCell (p := ⟨A, 0, none⟩) (Or.inl rfl) x0).setCell (p := ⟨A, 1, none⟩) (Or.inl rfl) x1).setCell (p := ⟨A, 2, none⟩) (Or.inl rfl) x2).setCell (p := ⟨A, 3, none⟩) (Or.inl rfl) x3).setCell (p := ⟨A, 4, none⟩) (Or.inl rfl) x4).setCell (p := ⟨A, 5, none⟩) (Or.inl rfl) x5).setCell (p := ⟨A, 6, none⟩) (Or.inl rfl) x6)⟩
theorem cells4 {w : World} {B : Nat} {R : Nat → Prop} {b : Nat} {v : CV} (k : Client w B R b (more v)) : w.cell? ⟨b, 9, none⟩ = some (.int .i64 v.ord.kind) ∧ w.cell? ⟨b, 10, none⟩ = some (.int .i64 v.ord.from_) ∧ w.cell? ⟨b, 11, none⟩ = some (.int .i64 v.ord.most) ∧ w.cell? ⟨b, 12, none⟩ = some (.slice v.ord.da v.ord.dl.length v.ord.dc) :=
  ⟨cell_of k.blk 9 rfl, cell_of k.blk 10 rfl, cell_of k.blk 11 rfl, cell_of k.blk 12 rfl⟩

theorem ask_end {w w1 wc w5 : World} {B : Nat} {R : Nat → Prop} {b : Nat} {u : CV} {q : CallV} {ca' : Option Addr} {cc' : Nat} (hkw : Kp (fun j => j = b) w w1) (k1 : Client w1 B R b u) (hk1 : Kp (fun j => w1.heap.size ≤ j) w1 wc) (k2 : Client wc B R b u) (hda : Row wc q.da (bytes q.dl)) (hfr : ∀ g, blockOf q.da = some g → w1.heap.size ≤ g ∧ g < wc.heap.size) (hB : B ≤ w.heap.size)
    (hk5 : Kp (fun j => some j = blockOf u.ca) wc w5) (ho5 : Owns w5 B 40 8 ca' (u.cl.length + 1) cc' (flat8 u.cl ++ q.cells)) (hmv : blockOf ca' = blockOf u.ca ∨ ∀ g, blockOf ca' = some g → wc.heap.size ≤ g) :
    ∃ R', Client (w5.setCell ⟨b, 19, none⟩ (.slice ca' (u.cl.length + 1) cc')) B R' b { u with ca := ca', cl := u.cl ++ [q], cc := cc' } ∧ Kp (Foot b u.ca) w (w5.setCell ⟨b, 19, none⟩ (.slice ca' (u.cl.length + 1) cc')) ∧ (∀ j, R' j → R j ∨ w.heap.size ≤ j) ∧ Moved w u.ca ca' := by
  have hs0 := hkw.size
  have hs1 := hk1.size
  have hbl := lt_of_block k1.blk
  have hca : ∀ j, some j = blockOf u.ca → j < w1.heap.size := fun j e => (k1.own.from e.symm).2
  have hneb : ∀ j, some j = blockOf u.ca → j ≠ b := fun j e h => k2.ne (h ▸ e.symm)
  have hb5 := hk5.heap k2.blk (fun e => hneb b e rfl)
  have hk6 : Kp (fun j => j = b) w5 (w5.setCell ⟨b, 19, none⟩ (.slice ca' (u.cl.length + 1) cc')) := (Kp.refl (fun j => j = b) _).setCell (p := ⟨b, 19, none⟩) (.inl rfl) _
  have hk56 : Kp (Foot b u.ca) wc (w5.setCell ⟨b, 19, none⟩ (.slice ca' (u.cl.length + 1) cc')) := (hk5.mono (S' := Foot b u.ca) (fun _ _ h => .inr h)).trans (hk6.mono (fun _ _ h => .inl h))
  have hR : ∀ j, R j → ¬ Foot b u.ca j := fun j hj h => k2.dis j h hj
  have hF : ∀ j, w1.heap.size ≤ j → ¬ Foot b u.ca j := fun j hj h => h.elim (fun e => by omega) (fun e => by have := hca j e; omega)
  have hcb : ∀ g, blockOf ca' = some g → g ≠ b := by
    intro g hg e
    rcases hmv with h | h
    · exact hneb g (h ▸ hg.symm) e
    · have := h g hg; omega
  have hs5 := hk5.size
  refine ⟨fun j => R j ∨ some j = blockOf q.da, ⟨?_, k2.ge, k2.srv.kp hk56 (fun g hg => hR g (k2.srvR g hg)), fun g hg => .inl (k2.srvR g hg), k2.one, k2.seven, k2.rs, k2.at_, k2.id1, k2.id2, k2.pat1, k2.pat2, k2.ord.kp hk56 (fun g hg => hR g (k2.ordR g hg)), fun g hg => .inl (k2.ordR g hg), k2.ordL, k2.ans.kp hk56 (fun g hg => hR g (k2.ansR g hg)), fun g hg => .inl (k2.ansR g hg),
    fun r hr => ⟨(k2.rec_ r hr).1.kp hk56 (fun g hg => hR g ((k2.rec_ r hr).2 g hg)), fun g hg => .inl ((k2.rec_ r hr).2 g hg)⟩, ?_, ?_, ?_, ?_⟩, ?_, ?_, ?_⟩
  · have h := heap_set hb5 19 (.slice ca' (u.cl.length + 1) cc')
    have e : (u.cl ++ [q]).length = u.cl.length + 1 := by simp
    have e2 : CV.cells { u with ca := ca', cl := u.cl ++ [q], cc := cc' } = u.cells.setIfInBounds 19 (.slice ca' (u.cl.length + 1) cc') := by
      unfold CV.cells
      rw [e]
      rfl
    rw [e2]
    exact h
  · have e : (u.cl ++ [q]).length = u.cl.length + 1 := by simp
    have e2 : flat8 (u.cl ++ [q]) = flat8 u.cl ++ q.cells := by simp [flat8]
    show Owns _ B 40 8 ca' (u.cl ++ [q]).length cc' (flat8 (u.cl ++ [q]))
    rw [e, e2]
    exact ho5.kp hk6 (fun g hg e => hcb g hg e)
  · intro x hx
    rcases List.mem_append.1 hx with hx | hx
    · exact ⟨(k2.dat x hx).1.kp hk56 (fun g hg => hR g ((k2.dat x hx).2 g hg)), fun g hg => .inl ((k2.dat x hx).2 g hg)⟩
    · simp at hx
      subst hx
      exact ⟨hda.kp hk56 (fun g hg => hF g (hfr g hg).1), fun g hg => .inr hg.symm⟩
  · intro j hj
    rintro (h | h)
    · rcases hj with e | e
      · exact k2.dis j (.inl e) h
      · rcases hmv with m | m
        · exact k2.dis j (.inr (m ▸ e)) h
        · have := m j e.symm
          have := (k2.lt j h).2
          omega
    · have hq := hfr j h.symm
      rcases hj with e | e
      · omega
      · rcases hmv with m | m
        · have := hca j (m ▸ e)
          omega
        · have := m j e.symm
          omega
  · rintro j (h | h)
    · have := k2.lt j h
      exact ⟨this.1, by have := hk56.size; omega⟩
    · have := hfr j h.symm
      exact ⟨by omega, by have := hk56.size; omega⟩
  · refine ((hkw.mono (S' := Foot b u.ca) (fun _ _ h => .inl h)).andThen hk1 (fun i hi (h : w1.heap.size ≤ i) => by omega)).andThen hk56 (fun _ _ h => h)
  · rintro j (h | h)
    · exact .inl h
    · have := hfr j h.symm
      exact .inr (by omega)
  · rcases hmv with m | m
    · exact .inl m
    · exact .inr (fun g hg => by have := m g hg; omega)

set_option maxRecDepth 100000 in
set_option maxHeartbeats 4000000 in
theorem ask_any {w : World} {B : Nat} {R : Nat → Prop} {b : Nat} {v : CV} (k : Client w B R b v) (ht : Few (v.tries + 1)) (ht0 : 0 ≤ v.tries) (hc : v.cl.length ≤ 1500000000000) (hB : B ≤ w.heap.size) :
    Calls Try.prog 30 #[.pointer (some ⟨b, 0, none⟩)] w fun e w' => e = .returned (.tuple #[]) ∧ ∃ da dc R' ca' cc', Client w' B R' b { more v with ca := ca', cl := v.cl ++ [callOf (more v) da dc], cc := cc' } ∧ Kp (Foot b v.ca) w w' ∧ (∀ j, R' j → R j ∨ w.heap.size ≤ j) ∧ Moved w v.ca ca' := by
  have c4 := cell_of k.blk 4 (v := .int .i64 v.passed) rfl
  have c7 := cell_of k.blk 7 (v := .int .i64 v.tries) rfl
  have f4 := free_of k.blk 4
  have f7 := free_of k.blk 7
  obtain ⟨t0, t1⟩ := ht
  have w1 : IntKind.i64.wrap (v.tries + 1) = v.tries + 1 := IntWalk.i64_in _ (by omega)
  have hk1 : Kp (fun j => j = b) w ((w.setCell ⟨b, 7, none⟩ (.int .i64 (v.tries + 1))).setCell ⟨b, 4, none⟩ (.int .i64 0)) := ((Kp.refl (fun j => j = b) _).setCell (p := ⟨b, 7, none⟩) (.inl rfl) _).setCell (p := ⟨b, 4, none⟩) (.inl rfl) _
  have k1 : Client ((w.setCell ⟨b, 7, none⟩ (.int .i64 (v.tries + 1))).setCell ⟨b, 4, none⟩ (.int .i64 0)) B R b (more v) :=
    k.set hk1 (more v) (heap_set (heap_set k.blk 7 (.int .i64 (v.tries + 1))) 4 (.int .i64 0)) ⟨rfl, rfl, rfl, rfl, rfl, rfl, rfl⟩ k.at_ ⟨k.ord, k.ordR, k.ordL⟩ ⟨k.ans, k.ansR, k.rec_⟩
  have hf1 : Few (more v).tries := ⟨t0, t1⟩
  have K1 := Lib.hid k1
  have HF := Lib.hid hf1
  have HK1 := Lib.hid hk1
  clear k k1 hk1 hf1 t0 t1 ht0
  go_enter Try.func30, Try.ntmps30
  go_upto_region 2 with fail
  generalize ((w.setCell ⟨b, 7, none⟩ (.int .i64 (v.tries + 1))).setCell ⟨b, 4, none⟩ (.int .i64 0)) = w1 at K1 HK1 ⊢
  have d0 := cell_of K1.out.blk 9 (v := .int .i64 v.ord.kind) rfl
  have d1 := cell_of K1.out.blk 10 (v := .int .i64 v.ord.from_) rfl
  have d2 := cell_of K1.out.blk 11 (v := .int .i64 v.ord.most) rfl
  have d3 := cell_of K1.out.blk 12 (v := .slice v.ord.da v.ord.dl.length v.ord.dc) rfl
  go_cut [2] (fun q w' => ∃ A da dc, q = .pointer (some ⟨A, 0, none⟩) ∧ w'.heap[A]? = some (.cells #[.int .i64 ((more v).id * 1000000 + (more v).tries), .int .i64 v.ord.kind, .int .i64 0, .int .i64 0, .int .i64 v.ord.from_, .int .i64 v.ord.most, .slice da v.ord.dl.length dc] 38 (0, 0)) ∧ w1.heap.size ≤ A ∧ Row w' da (bytes v.ord.dl) ∧ (∀ g, blockOf da = some g → w1.heap.size ≤ g ∧ g < w'.heap.size ∧ g ≠ A) ∧ Kp (fun _ => False) w1 w')
  case first =>
    go_region_held3 (fun w' => w'.cell? ⟨b, 9, none⟩ = some (.int .i64 v.ord.kind) ∧ w'.cell? ⟨b, 10, none⟩ = some (.int .i64 v.ord.from_) ∧ w'.cell? ⟨b, 11, none⟩ = some (.int .i64 v.ord.most) ∧ w'.cell? ⟨b, 12, none⟩ = some (.slice v.ord.da v.ord.dl.length v.ord.dc)) (first | with_reducible exact ⟨d0, d1, d2, d3⟩ | exact cells4 (K1.out.kp (S := fun j => w1.heap.size ≤ j) (by repeat (first | with_reducible exact Kp.refl _ _ | with_reducible exact (HK2.out.andThen HK3.out (fun _ _ h => h)).no | with_reducible exact HK2.out.no | with_reducible apply Kp.drew | with_reducible apply Kp.alloc | (with_reducible refine Kp.setCell ?_ (Or.inl (by first | exact Nat.le_refl _ | (show w1.heap.size ≤ _; omega))) _))) (fun j hj e => absurd (K1.out.all hj).2 (Nat.not_lt.2 e)))) (first | (go_at_call 32; refine (number_any (K1.out.no (by repeat (first | with_reducible exact Kp.refl _ _ | with_reducible apply Kp.drew | with_reducible apply Kp.alloc))) HF.out).mono ?_; rintro e w2 ⟨rfl, hk2⟩; have HK2 := Lib.hid (Kp.andThen (S := fun _ => False) (a := w1) (by repeat (first | with_reducible exact Kp.refl _ _ | with_reducible apply Kp.drew | with_reducible apply Kp.alloc)) hk2 (fun _ _ h => h)); have K2 := Lib.hid (K1.out.no HK2.out); have d0 : w2.cell? ⟨b, 9, none⟩ = some (.int .i64 v.ord.kind) := cell_of K2.out.blk 9 rfl; have d1 : w2.cell? ⟨b, 10, none⟩ = some (.int .i64 v.ord.from_) := cell_of K2.out.blk 10 rfl; have d2 : w2.cell? ⟨b, 11, none⟩ = some (.int .i64 v.ord.most) := cell_of K2.out.blk 11 rfl; have d3 : w2.cell? ⟨b, 12, none⟩ = some (.slice v.ord.da v.ord.dl.length v.ord.dc) := cell_of K2.out.blk 12 rfl; have s2 := HK2.out.size; first | (have HA2 := Lib.hid (show w2.heap[w1.heap.size]? = some (.cells #[.int .i64 0, .int .i64 0, .int .i64 0, .int .i64 0, .int .i64 0, .int .i64 0, .slice none 0 0] 38 (0, 0)) from hk2.heap (by exact heap_new _ _) (fun h => h)); clear hk2) | (clear hk2)) | (go_at_call 29; refine (clone_bytes (K2.out.ord.no (by repeat (first | with_reducible exact Kp.refl _ _ | with_reducible apply Kp.drew | with_reducible apply Kp.alloc))) K2.out.ordL _).mono ?_; rintro e w3 ⟨da, dc, rfl, ho3, hk3⟩; have HO3 := Lib.hid ho3; have HK3 := Lib.hid (Kp.andThen (S := fun _ => False) (a := w2) (by repeat (first | with_reducible exact Kp.refl _ _ | with_reducible apply Kp.drew | with_reducible apply Kp.alloc)) hk3 (fun _ _ h => h)); have K3 := Lib.hid (K2.out.no HK3.out); have d0 : w3.cell? ⟨b, 9, none⟩ = some (.int .i64 v.ord.kind) := cell_of K3.out.blk 9 rfl; have d1 : w3.cell? ⟨b, 10, none⟩ = some (.int .i64 v.ord.from_) := cell_of K3.out.blk 10 rfl; have d2 : w3.cell? ⟨b, 11, none⟩ = some (.int .i64 v.ord.most) := cell_of K3.out.blk 11 rfl; have d3 : w3.cell? ⟨b, 12, none⟩ = some (.slice v.ord.da v.ord.dl.length v.ord.dc) := cell_of K3.out.blk 12 rfl; have s3 := HK3.out.size; first | (have HA3 := Lib.hid (show w3.heap[w1.heap.size]? = some (.cells #[.int .i64 0, .int .i64 0, .int .i64 0, .int .i64 0, .int .i64 0, .int .i64 0, .slice none 0 0] 38 (0, 0)) from hk3.heap (by exact HA2.out) (fun h => h)); have a0 : w3.cell? ⟨w1.heap.size, 0, none⟩ = some (.int .i64 0) := cell_of HA3.out 0 rfl; have a1 : w3.cell? ⟨w1.heap.size, 1, none⟩ = some (.int .i64 0) := cell_of HA3.out 1 rfl; have a2 : w3.cell? ⟨w1.heap.size, 2, none⟩ = some (.int .i64 0) := cell_of HA3.out 2 rfl; have a3 : w3.cell? ⟨w1.heap.size, 3, none⟩ = some (.int .i64 0) := cell_of HA3.out 3 rfl; have a4 : w3.cell? ⟨w1.heap.size, 4, none⟩ = some (.int .i64 0) := cell_of HA3.out 4 rfl; have a5 : w3.cell? ⟨w1.heap.size, 5, none⟩ = some (.int .i64 0) := cell_of HA3.out 5 rfl; have a6 : w3.cell? ⟨w1.heap.size, 6, none⟩ = some (.slice none 0 0) := cell_of HA3.out 6 rfl; have r0 : w3.frozen? ⟨w1.heap.size, 0, none⟩ = false := free_of HA3.out 0; have r1 : w3.frozen? ⟨w1.heap.size, 1, none⟩ = false := free_of HA3.out 1; have r2 : w3.frozen? ⟨w1.heap.size, 2, none⟩ = false := free_of HA3.out 2; have r3 : w3.frozen? ⟨w1.heap.size, 3, none⟩ = false := free_of HA3.out 3; have r4 : w3.frozen? ⟨w1.heap.size, 4, none⟩ = false := free_of HA3.out 4; have r5 : w3.frozen? ⟨w1.heap.size, 5, none⟩ = false := free_of HA3.out 5; have r6 : w3.frozen? ⟨w1.heap.size, 6, none⟩ = false := free_of HA3.out 6; clear ho3 hk3) | (have HA3 := Lib.hid (show w3.heap[w2.heap.size]? = some (.cells #[.int .i64 0, .int .i64 0, .int .i64 0, .int .i64 0, .int .i64 0, .int .i64 0, .slice none 0 0] 38 (0, 0)) from hk3.heap (by exact heap_new _ _) (fun h => h)); have a0 : w3.cell? ⟨w2.heap.size, 0, none⟩ = some (.int .i64 0) := cell_of HA3.out 0 rfl; have a1 : w3.cell? ⟨w2.heap.size, 1, none⟩ = some (.int .i64 0) := cell_of HA3.out 1 rfl; have a2 : w3.cell? ⟨w2.heap.size, 2, none⟩ = some (.int .i64 0) := cell_of HA3.out 2 rfl; have a3 : w3.cell? ⟨w2.heap.size, 3, none⟩ = some (.int .i64 0) := cell_of HA3.out 3 rfl; have a4 : w3.cell? ⟨w2.heap.size, 4, none⟩ = some (.int .i64 0) := cell_of HA3.out 4 rfl; have a5 : w3.cell? ⟨w2.heap.size, 5, none⟩ = some (.int .i64 0) := cell_of HA3.out 5 rfl; have a6 : w3.cell? ⟨w2.heap.size, 6, none⟩ = some (.slice none 0 0) := cell_of HA3.out 6 rfl; have r0 : w3.frozen? ⟨w2.heap.size, 0, none⟩ = false := free_of HA3.out 0; have r1 : w3.frozen? ⟨w2.heap.size, 1, none⟩ = false := free_of HA3.out 1; have r2 : w3.frozen? ⟨w2.heap.size, 2, none⟩ = false := free_of HA3.out 2; have r3 : w3.frozen? ⟨w2.heap.size, 3, none⟩ = false := free_of HA3.out 3; have r4 : w3.frozen? ⟨w2.heap.size, 4, none⟩ = false := free_of HA3.out 4; have r5 : w3.frozen? ⟨w2.heap.size, 5, none⟩ = false := free_of HA3.out 5; have r6 : w3.frozen? ⟨w2.heap.size, 6, none⟩ = false := free_of HA3.out 6; clear ho3 hk3) | (clear ho3 hk3)))
    · go_wp2
      go_meet
      case rel =>
        have hk5 : Kp (fun _ => False) w3 (w3.alloc (.cells #[.int .i64 ((more v).id * 1000000 + (more v).tries), .int .i64 v.ord.kind, .int .i64 0, .int .i64 0, .int .i64 v.ord.from_, .int .i64 v.ord.most, .slice da v.ord.dl.length dc] 38)) := (Kp.refl _ _).alloc _
        exact ⟨w3.heap.size, da, dc, rfl, heap_new w3 _, by omega, HO3.out.row.no hk5, fun g hg => by have q1 := HO3.out.from hg; simp; omega, HK2.out.andThen (HK3.out.andThen hk5 (fun _ _ h => h)) (fun _ _ h => h)⟩
    · go_wp2
      go_meet
      case rel =>
        have s2 := HK2.out.size
        have s3 := HK3.out.size
        obtain ⟨hA5, hk5⟩ := set7 HA3.out (.int .i64 ((more v).id * 1000000 + (more v).tries)) (.int .i64 v.ord.kind) (.int .i64 0) (.int .i64 0) (.int .i64 v.ord.from_) (.int .i64 v.ord.most) (.slice da v.ord.dl.length dc)
        have hne : ∀ g, blockOf da = some g → ¬ g = w2.heap.size := fun g hg e => by
          have q1 := HO3.out.from hg
          simp at q1
          omega
        exact ⟨w2.heap.size, da, dc, rfl, hA5, by omega, HO3.out.row.kp hk5 hne, fun g hg => ⟨by have q1 := HO3.out.from hg; simp at q1; omega, Nat.lt_of_lt_of_le (HO3.out.from hg).2 hk5.size, hne g hg⟩, (HK2.out.andThen HK3.out (fun _ _ h => h)).andThen hk5 (fun i (hi : i < w1.heap.size) (e : i = w2.heap.size) => absurd hi (by omega))⟩
    · go_wp2
      go_meet
      case rel =>
        have s2 := HK2.out.size
        have s3 := HK3.out.size
        obtain ⟨hA5, hk5⟩ := set7 HA3.out (.int .i64 ((more v).id * 1000000 + (more v).tries)) (.int .i64 v.ord.kind) (.int .i64 0) (.int .i64 0) (.int .i64 v.ord.from_) (.int .i64 v.ord.most) (.slice da v.ord.dl.length dc)
        have hne : ∀ g, blockOf da = some g → ¬ g = w1.heap.size := fun g hg e => by
          have q1 := HO3.out.from hg
          have q5 := lt_of_block HA2.out
          omega
        exact ⟨w1.heap.size, da, dc, rfl, hA5, by omega, HO3.out.row.kp hk5 hne, fun g hg => ⟨by have q1 := HO3.out.from hg; have q5 := lt_of_block HA2.out; omega, Nat.lt_of_lt_of_le (HO3.out.from hg).2 hk5.size, hne g hg⟩, (HK2.out.andThen HK3.out (fun _ _ h => h)).andThen hk5 (fun i (hi : i < w1.heap.size) (e : i = w1.heap.size) => absurd hi (by omega))⟩
  case rest =>
    obtain ⟨A, da, dc, rfl, hA, hA1, hda, hfr, hkA⟩ := hcut
    have kc := K1.out.no hkA
    have HAX := Lib.hid hA1
    have HDA := Lib.hid hda
    have HFR := Lib.hid hfr
    have HKA := Lib.hid hkA
    have KC := Lib.hid kc
    have HA0 := Lib.hid hA
    have c1 := cell_of hA 1 (v := .int .i64 v.ord.kind) rfl
    clear hA hA1 hda hfr hkA kc d0 d1 d2 d3
    go_upto_if 39 with fail
    go_cut [2] (fun q w' => q = .pointer (some ⟨A, 0, none⟩) ∧ w'.heap[A]? = some (.cells #[.int .i64 ((more v).id * 1000000 + (more v).tries), .int .i64 v.ord.kind, .int .i64 (if v.ord.kind = 2 then v.session else 0), .int .i64 (if v.ord.kind = 2 then v.seq else 0), .int .i64 v.ord.from_, .int .i64 v.ord.most, .slice da v.ord.dl.length dc] 38 (0, 0)) ∧ Kp (fun j => j = A) wc w')
    case first =>
      by_cases h2 : v.ord.kind = 2
      · have H2 := Lib.hid h2
        have hkb : (v.ord.kind == 2) = true := by simp [h2]
        have e1 := cell_of KC.out.blk 5 (v := .int .i64 v.session) rfl
        have e2 := cell_of KC.out.blk 6 (v := .int .i64 v.seq) rfl
        have a2 := cell_of HA0.out 2 (v := .int .i64 0) rfl
        have a3 := cell_of HA0.out 3 (v := .int .i64 0) rfl
        have f2 := free_of HA0.out 2
        have f3 := free_of HA0.out 3
        clear h2
        go_wp2_with fail
        go_region
        all_goals go_wp2
        all_goals go_meet
        all_goals
          case rel => exact ⟨rfl, by rw [if_pos H2.out, if_pos H2.out]; exact heap_set (heap_set HA0.out 2 _) 3 _, (((Kp.refl (fun j => j = A) wc).setCell (p := ⟨A, 2, none⟩) (Or.inl rfl) _).setCell (p := ⟨A, 3, none⟩) (Or.inl rfl) _).drew⟩
      · have H2 := Lib.hid h2
        have hkb : (v.ord.kind == 2) = false := by simpa using h2
        clear h2
        go_wp2_with fail
        go_meet
        case rel => exact ⟨rfl, by rw [if_neg H2.out, if_neg H2.out]; exact HA0.out, Kp.refl _ _⟩
    case rest =>
      obtain ⟨rfl, hA, hkA⟩ := hcut
      have k2 := KC.out.kp hkA (fun j hj (e : j = A) => by have := (K1.out.all hj).2; have := HAX.out; omega)
      have hs0 : w.heap.size ≤ w1.heap.size := HK1.out.size
      have hs2 : w1.heap.size ≤ wc.heap.size := by have := HKA.out.size; have := hkA.size; omega
      have hkw : Kp (fun j => w1.heap.size ≤ j) w1 wc := HKA.out.no.trans (hkA.mono (fun j _ (e : j = A) => by have := HAX.out; omega))
      obtain ⟨S, hS⟩ : ∃ S, S = if v.ord.kind = 2 then v.session else 0 := ⟨_, rfl⟩
      obtain ⟨Q, hQ⟩ : ∃ Q, Q = if v.ord.kind = 2 then v.seq else 0 := ⟨_, rfl⟩
      rw [← hS, ← hQ] at hA
      have HS := Lib.hid hS
      have HQ := Lib.hid hQ
      have hat : (v.at_ : Int) < (v.sl.length : Int) := by have := k2.at_; have e : (more v).sl = v.sl := rfl; have e2 : (more v).at_ = v.at_ := rfl; rw [e, e2] at this; omega
      have hat0 : (0 : Int) ≤ (v.at_ : Int) := by omega
      obtain ⟨g, og, hsa, d2⟩ := Row.int (zs := v.sl) k2.srv k2.at_
      have HSA := Lib.hid (show v.sa = some ⟨g, og, none⟩ from hsa)
      have hgR : R g := k2.srvR g (by rw [hsa]; rfl)
      have d0 : wc.cell? ⟨b, 0, none⟩ = some (.slice (some ⟨g, og, none⟩) v.sl.length v.sc) := by rw [← hsa]; exact cell_of k2.blk 0 rfl
      have d1 : wc.cell? ⟨b, 1, none⟩ = some (.int .i64 (v.at_ : Nat)) := cell_of k2.blk 1 rfl
      have d19 : wc.cell? ⟨b, 19, none⟩ = some (.slice v.ca v.cl.length v.cc) := cell_of k2.blk 19 rfl
      have d2' : wc.cell? ⟨g, og + v.at_, none⟩ = some (.int .i64 (v.sl.getD v.at_ 0)) := d2
      obtain ⟨tz, hto⟩ : ∃ tz, tz = v.sl.getD v.at_ 0 := ⟨_, rfl⟩
      rw [← hto] at d2'
      have HTO := Lib.hid hto
      have a0 : wc.cell? ⟨A, 0, none⟩ = some (.int .i64 ((more v).id * 1000000 + (more v).tries)) := cell_of hA 0 rfl
      have a1 : wc.cell? ⟨A, 1, none⟩ = some (.int .i64 v.ord.kind) := cell_of hA 1 rfl
      have a2 : wc.cell? ⟨A, 2, none⟩ = some (.int .i64 S) := cell_of hA 2 rfl
      have a3 : wc.cell? ⟨A, 3, none⟩ = some (.int .i64 Q) := cell_of hA 3 rfl
      have a4 : wc.cell? ⟨A, 4, none⟩ = some (.int .i64 v.ord.from_) := cell_of hA 4 rfl
      have a5 : wc.cell? ⟨A, 5, none⟩ = some (.int .i64 v.ord.most) := cell_of hA 5 rfl
      have a6 : wc.cell? ⟨A, 6, none⟩ = some (.slice da v.ord.dl.length dc) := cell_of hA 6 rfl
      have K2 := Lib.hid k2
      have HAA := Lib.hid hA
      have HGR := Lib.hid hgR
      have HGB := Lib.hid (show g ≠ b from fun e => k2.dis b (Or.inl rfl) (e ▸ hgR))
      have HAB := Lib.hid (show A ≠ b from fun e => by have := lt_of_block K1.out.blk; have := HAX.out; omega)
      have HKW := Lib.hid hkw
      have HD2 := Lib.hid (HDA.out.kp hkA (fun g hg e => (HFR.out g hg).2.2 e))
      have HF2 := Lib.hid (show ∀ g, blockOf da = some g → w1.heap.size ≤ g ∧ g < wc.heap.size from fun g hg => ⟨(HFR.out g hg).1, Nat.lt_of_lt_of_le (HFR.out g hg).2.1 hkA.size⟩)
      have hA2 := lt_of_block hA
      clear hA hkA k2 hS hQ hto hsa d2 c1 hgR hkw
      go_wp2_with fail
      refine wp_region_held_drew (S := (fun w' => w'.cell? ⟨b, 0, none⟩ = some (.slice (some ⟨g, og, none⟩) v.sl.length v.sc) ∧ w'.cell? ⟨b, 1, none⟩ = some (.int .i64 (v.at_ : Nat)) ∧ w'.cell? ⟨g, og + v.at_, none⟩ = some (.int .i64 tz) ∧ w'.cell? ⟨A, 0, none⟩ = some (.int .i64 ((more v).id * 1000000 + (more v).tries)) ∧ w'.cell? ⟨A, 1, none⟩ = some (.int .i64 v.ord.kind) ∧ w'.cell? ⟨A, 2, none⟩ = some (.int .i64 S) ∧ w'.cell? ⟨A, 3, none⟩ = some (.int .i64 Q) ∧ w'.cell? ⟨A, 4, none⟩ = some (.int .i64 v.ord.from_) ∧ w'.cell? ⟨A, 5, none⟩ = some (.int .i64 v.ord.most) ∧ w'.cell? ⟨A, 6, none⟩ = some (.slice da v.ord.dl.length dc))) (by kernel_rfl) ?_ (fun hHeld => ?_)
      · exact ⟨d0, d1, d2', a0, a1, a2, a3, a4, a5, a6⟩
      refine wpAnyH_take (i := 0) (v := ?_) rfl (by kernel_rfl) (by kernel_rfl) (by kernel_rfl) (fun _ _ _ h => h) (Or.inl ⟨by rfl, ?_⟩) (by assumption) ?_
      rotate_left
      · intro w hSw
        try dsimp only at hSw
        go_simp
        try with_reducible rfl
      try simp only [Act.put]
      refine wpAnyH_take (i := 1) (v := ?_) rfl (by kernel_rfl) (by kernel_rfl) (by kernel_rfl) (fun _ _ _ h => h) (Or.inl ⟨by rfl, ?_⟩) (by assumption) ?_
      rotate_left
      · intro w hSw
        try dsimp only at hSw
        go_simp
        try with_reducible rfl
      try simp only [Act.put]
      refine wpAnyH_take (i := 2) (v := ?_) rfl (by kernel_rfl) (by kernel_rfl) (by kernel_rfl) (fun _ _ _ h => h) (Or.inl ⟨by rfl, ?_⟩) (by assumption) ?_
      rotate_left
      · intro w hSw
        try dsimp only at hSw
        go_simp
        try with_reducible rfl
      try simp only [Act.put]
      refine wpAnyH_take (i := 3) (v := ?_) rfl (by kernel_rfl) (by kernel_rfl) (by kernel_rfl) (fun _ _ _ h => h) (Or.inl ⟨by rfl, ?_⟩) (by assumption) ?_
      rotate_left
      · intro w hSw
        try dsimp only at hSw
        go_simp
        try with_reducible rfl
      try simp only [Act.put]
      refine wpAnyH_take (i := 5) (v := ?_) rfl (by kernel_rfl) (by kernel_rfl) (by kernel_rfl) (fun _ _ _ h => h) (Or.inl ⟨by rfl, ?_⟩) (by assumption) ?_
      rotate_left
      · intro w hSw
        try dsimp only at hSw
        go_simp
        try with_reducible rfl
      try simp only [Act.put]
      refine wpAnyH_take (i := 6) (v := ?_) rfl (by kernel_rfl) (by kernel_rfl) (by kernel_rfl) (fun _ _ _ h => h) (Or.inl ⟨by rfl, ?_⟩) (by assumption) ?_
      rotate_left
      · intro w hSw
        try dsimp only at hSw
        go_simp
        try with_reducible rfl
      try simp only [Act.put]
      refine wpAnyH_take (i := 7) (v := ?_) rfl (by kernel_rfl) (by kernel_rfl) (by kernel_rfl) (fun _ _ _ h => h) (Or.inl ⟨by rfl, ?_⟩) (by assumption) ?_
      rotate_left
      · intro w hSw
        try dsimp only at hSw
        go_simp
        try with_reducible rfl
      try simp only [Act.put]
      refine wpAnyH_take (i := 8) (v := ?_) rfl (by kernel_rfl) (by kernel_rfl) (by kernel_rfl) (fun _ _ _ h => h) (Or.inl ⟨by rfl, ?_⟩) (by assumption) ?_
      rotate_left
      · intro w hSw
        try dsimp only at hSw
        go_simp
        try with_reducible rfl
      try simp only [Act.put]
      refine wpAnyH_take (i := 9) (v := ?_) rfl (by kernel_rfl) (by kernel_rfl) (by kernel_rfl) (fun _ _ _ h => h) (Or.inl ⟨by rfl, ?_⟩) (by assumption) ?_
      rotate_left
      · intro w hSw
        try dsimp only at hSw
        go_simp
        try with_reducible rfl
      try simp only [Act.put]
      refine wpAnyH_take (i := 10) (v := ?_) rfl (by kernel_rfl) (by kernel_rfl) (by kernel_rfl) (fun _ _ _ h => h) (Or.inl ⟨by rfl, ?_⟩) (by assumption) ?_
      rotate_left
      · intro w hSw
        try dsimp only at hSw
        go_simp
        try with_reducible rfl
      try simp only [Act.put]
      refine wpAnyH_take (i := 11) (v := ?_) rfl (by kernel_rfl) (by kernel_rfl) (by kernel_rfl) (fun _ _ _ h => h) (Or.inl ⟨by rfl, ?_⟩) (by assumption) ?_
      rotate_left
      · intro w hSw
        try dsimp only at hSw
        go_simp
        try with_reducible rfl
      try simp only [Act.put]
      refine wpAnyH_take (i := 12) (v := ?_) rfl (by kernel_rfl) (by kernel_rfl) (by kernel_rfl) (fun _ _ _ h => h) (Or.inl ⟨by rfl, ?_⟩) (by assumption) ?_
      rotate_left
      · intro w hSw
        try dsimp only at hSw
        go_simp
        try with_reducible rfl
      try simp only [Act.put]
      refine wpAnyH_take (i := 13) (v := ?_) rfl (by kernel_rfl) (by kernel_rfl) (by kernel_rfl) (fun _ _ _ h => h) (Or.inl ⟨by rfl, ?_⟩) (by assumption) ?_
      rotate_left
      · intro w hSw
        try dsimp only at hSw
        go_simp
        try with_reducible rfl
      try simp only [Act.put]
      refine wpAnyH_take (i := 14) (v := ?_) rfl (by kernel_rfl) (by kernel_rfl) (by kernel_rfl) (fun _ _ _ h => h) (Or.inl ⟨by rfl, ?_⟩) (by assumption) ?_
      rotate_left
      · intro w hSw
        try dsimp only at hSw
        go_simp
        try with_reducible rfl
      try simp only [Act.put]
      refine wpAnyH_take (i := 15) (v := ?_) rfl (by kernel_rfl) (by kernel_rfl) (by kernel_rfl) (fun _ _ _ h => h) (Or.inl ⟨by rfl, ?_⟩) (by assumption) ?_
      rotate_left
      · intro w hSw
        try dsimp only at hSw
        go_simp
        try with_reducible rfl
      try simp only [Act.put]
      refine wpAnyH_take (i := 16) (v := ?_) rfl (by kernel_rfl) (by kernel_rfl) (by kernel_rfl) (fun _ _ _ h => h) (Or.inl ⟨by rfl, ?_⟩) (by assumption) ?_
      rotate_left
      · intro w hSw
        try dsimp only at hSw
        go_simp
        try with_reducible rfl
      try simp only [Act.put]
      refine wpAnyH_take (i := 17) (v := ?_) rfl (by kernel_rfl) (by kernel_rfl) (by kernel_rfl) (fun _ _ _ h => h) (Or.inl ⟨by rfl, ?_⟩) (by assumption) ?_
      rotate_left
      · intro w hSw
        try dsimp only at hSw
        go_simp
        try with_reducible rfl
      try simp only [Act.put]
      refine wpAnyH_take (i := 18) (v := ?_) rfl (by kernel_rfl) (by kernel_rfl) (by kernel_rfl) (fun _ _ _ h => h) (Or.inl ⟨by rfl, ?_⟩) (by assumption) ?_
      rotate_left
      · intro w hSw
        try dsimp only at hSw
        go_simp
        try with_reducible rfl
      try simp only [Act.put]
      have hbw := lt_of_block K2.out.blk
      refine wpAnyH_ready (rs := [4, 19]) (by kernel_rfl) (by simp) ?_
      refine AllReadyH.cons rfl (fun K hK => ?_) (AllReadyH.cons rfl (fun K hK => ?_) AllReadyH.nil)
      · go_simp
        refine hK.out _ _ ?_ (fun hHeld => ?_)
        · assumption
        clear hK K
        try simp only [Act.put]
        refine wpAnyH_ready (rs := [19]) (by kernel_rfl) (by simp) ?_
        refine AllReadyH.cons rfl (fun K hK => ?_) AllReadyH.nil
        go_simp
        refine hK.out _ _ ?_ (fun hHeld => ?_)
        · go_keep
        clear hK K
        try simp only [Act.put]
        refine wpAnyH_ready (rs := [20]) (by kernel_rfl) (by simp) ?_
        refine AllReadyH.cons rfl (fun K hK => ?_) AllReadyH.nil
        refine step_app (by rfl) _ _ 34 (by rfl) B 40 info40z Try.underlying34 rfl (by omega) (by rfl) (K2.out.own.kp (S := fun _ => False) (by repeat (first | with_reducible exact Kp.refl _ _ | with_reducible apply Kp.drew | with_reducible apply Kp.alloc)) (fun _ _ h => h)) (ad := ⟨wc.heap.size, 0, none⟩) (m := 1) (c := 1) (news := [.int .i64 tz, .int .i64 ((more v).id * 1000000 + (more v).tries), .int .i64 v.ord.kind, .int .i64 S, .int .i64 Q, .int .i64 v.ord.from_, .int .i64 v.ord.most, .slice da v.ord.dl.length dc]) (by rfl) (by rfl) (World.news_of_block (cs := #[.int .i64 tz, .int .i64 ((more v).id * 1000000 + (more v).tries), .int .i64 v.ord.kind, .int .i64 S, .int .i64 Q, .int .i64 v.ord.from_, .int .i64 v.ord.most, .slice da v.ord.dl.length dc]) (t := 40) (fr := (0, 0)) (by exact heap_new _ _)) (by simp [Value.oneCell']) (by have e : (more v).cl = v.cl := rfl; rw [e]; unfold maxLen; omega) (by have e : (more v).cl = v.cl := rfl; rw [e]; omega) (by simp; omega) ?_; intro ca' cc' w5 ho5 hk5 hmv; have hkw5 := Kp.andThen (S := fun j => some j = blockOf v.ca) (a := wc) (by repeat (first | with_reducible exact Kp.refl _ _ | with_reducible apply Kp.drew | with_reducible apply Kp.alloc)) hk5 (fun _ _ h => h); have HB5 := Lib.hid (hkw5.heap K2.out.blk (fun e => K2.out.ne e.symm)); have HA5 := Lib.hid (hkw5.heap HAA.out (fun e => by have := (K1.out.own.from e.symm).2; have := HAX.out; omega)); have dg5 := (hkw5.cell (p := ⟨g, og + v.at_, none⟩) (World.block_lt_of_cell? _ _ d2') (fun e => K2.out.dis g (Or.inr e) HGR.out)).trans d2'; have d0 : w5.cell? ⟨b, 0, none⟩ = some (.slice (some ⟨g, og, none⟩) v.sl.length v.sc) := (hkw5.cell (p := ⟨b, 0, none⟩) (lt_of_block K2.out.blk) (fun e => K2.out.ne e.symm)).trans d0; have d1 : w5.cell? ⟨b, 1, none⟩ = some (.int .i64 (v.at_ : Nat)) := cell_of HB5.out 1 rfl; have d2' := dg5; have d19 : w5.cell? ⟨b, 19, none⟩ = some (.slice v.ca v.cl.length v.cc) := cell_of HB5.out 19 rfl; have f19 : w5.frozen? ⟨b, 19, none⟩ = false := free_of HB5.out 19; have a0 : w5.cell? ⟨A, 0, none⟩ = some (.int .i64 ((more v).id * 1000000 + (more v).tries)) := cell_of HA5.out 0 rfl; have a1 : w5.cell? ⟨A, 1, none⟩ = some (.int .i64 v.ord.kind) := cell_of HA5.out 1 rfl; have a2 : w5.cell? ⟨A, 2, none⟩ = some (.int .i64 S) := cell_of HA5.out 2 rfl; have a3 : w5.cell? ⟨A, 3, none⟩ = some (.int .i64 Q) := cell_of HA5.out 3 rfl; have a4 : w5.cell? ⟨A, 4, none⟩ = some (.int .i64 v.ord.from_) := cell_of HA5.out 4 rfl; have a5 : w5.cell? ⟨A, 5, none⟩ = some (.int .i64 v.ord.most) := cell_of HA5.out 5 rfl; have a6 : w5.cell? ⟨A, 6, none⟩ = some (.slice da v.ord.dl.length dc) := cell_of HA5.out 6 rfl; have HO5 := Lib.hid ho5; have HK5 := Lib.hid hkw5; have HMV := Lib.hid hmv; clear ho5 hk5 hmv hkw5 dg5
        refine hK.out _ _ ?_ (fun hHeld => ?_)
        · exact ⟨d0, d1, d2', a0, a1, a2, a3, a4, a5, a6⟩
        clear hK K
        try simp only [Act.put]
        refine wpAnyH_take (i := 21) (v := ?_) rfl (by kernel_rfl) (by kernel_rfl) (by kernel_rfl) (fun _ _ _ h => h) (Or.inl ⟨by rfl, ?_⟩) (by assumption) ?_
        rotate_left
        · intro w hSw
          try dsimp only at hSw
          go_simp
          try with_reducible rfl
        try simp only [Act.put]
        refine wpAnyH_take (i := 22) (v := ?_) rfl (by kernel_rfl) (by kernel_rfl) (by kernel_rfl) (fun _ _ _ h => h) (Or.inl ⟨by rfl, ?_⟩) (by assumption) ?_
        rotate_left
        · intro w hSw
          try dsimp only at hSw
          go_simp
          try with_reducible rfl
        try simp only [Act.put]
        refine wpAnyH_ready (rs := [23]) (by kernel_rfl) (by simp) ?_
        refine AllReadyH.cons rfl (fun K hK => ?_) AllReadyH.nil
        go_simp
        refine hK.out _ _ ?_ (fun hHeld => ?_)
        · exact ⟨(by rw [← HSA.out]; exact cell_of (heap_set HB5.out 19 _) 0 rfl), cell_of (heap_set HB5.out 19 _) 1 rfl, cell_far d2' HGB.out, cell_far a0 HAB.out, cell_far a1 HAB.out, cell_far a2 HAB.out, cell_far a3 HAB.out, cell_far a4 HAB.out, cell_far a5 HAB.out, cell_far a6 HAB.out⟩
        clear hK K
        try simp only [Act.put]
        refine wpAnyH_done (by kernel_rfl) ?_ _
        go_wp2
        go_end0
        refine ⟨rfl, ?_⟩
        obtain ⟨R', h1, h2, h3, h4⟩ := ask_end (u := more v) (q := callOf (more v) da dc) HK1.out K1.out HKW.out K2.out HD2.out HF2.out hB HK5.out (by have e : (callOf (more v) da dc).cells = [.int .i64 tz, .int .i64 ((more v).id * 1000000 + (more v).tries), .int .i64 v.ord.kind, .int .i64 S, .int .i64 Q, .int .i64 v.ord.from_, .int .i64 v.ord.most, .slice da v.ord.dl.length dc] := (by rw [HTO.out, HS.out, HQ.out]; rfl); rw [e]; exact HO5.out) (HMV.out.imp_right (fun e g hg => by have e2 := e.symm.trans hg; simp at e2; omega))
        exact ⟨da, dc, R', ca', cc', h1, h2, h3, h4⟩
      · go_simp
        refine hK.out _ _ ?_ (fun hHeld => ?_)
        · go_keep
        clear hK K
        try simp only [Act.put]
        refine wpAnyH_ready (rs := [4]) (by kernel_rfl) (by simp) ?_
        refine AllReadyH.cons rfl (fun K hK => ?_) AllReadyH.nil
        go_simp
        refine hK.out _ _ ?_ (fun hHeld => ?_)
        · assumption
        clear hK K
        try simp only [Act.put]
        refine wpAnyH_ready (rs := [20]) (by kernel_rfl) (by simp) ?_
        refine AllReadyH.cons rfl (fun K hK => ?_) AllReadyH.nil
        refine step_app (by rfl) _ _ 34 (by rfl) B 40 info40z Try.underlying34 rfl (by omega) (by rfl) (K2.out.own.kp (S := fun _ => False) (by repeat (first | with_reducible exact Kp.refl _ _ | with_reducible apply Kp.drew | with_reducible apply Kp.alloc)) (fun _ _ h => h)) (ad := ⟨wc.heap.size, 0, none⟩) (m := 1) (c := 1) (news := [.int .i64 tz, .int .i64 ((more v).id * 1000000 + (more v).tries), .int .i64 v.ord.kind, .int .i64 S, .int .i64 Q, .int .i64 v.ord.from_, .int .i64 v.ord.most, .slice da v.ord.dl.length dc]) (by rfl) (by rfl) (World.news_of_block (cs := #[.int .i64 tz, .int .i64 ((more v).id * 1000000 + (more v).tries), .int .i64 v.ord.kind, .int .i64 S, .int .i64 Q, .int .i64 v.ord.from_, .int .i64 v.ord.most, .slice da v.ord.dl.length dc]) (t := 40) (fr := (0, 0)) (by exact heap_new _ _)) (by simp [Value.oneCell']) (by have e : (more v).cl = v.cl := rfl; rw [e]; unfold maxLen; omega) (by have e : (more v).cl = v.cl := rfl; rw [e]; omega) (by simp; omega) ?_; intro ca' cc' w5 ho5 hk5 hmv; have hkw5 := Kp.andThen (S := fun j => some j = blockOf v.ca) (a := wc) (by repeat (first | with_reducible exact Kp.refl _ _ | with_reducible apply Kp.drew | with_reducible apply Kp.alloc)) hk5 (fun _ _ h => h); have HB5 := Lib.hid (hkw5.heap K2.out.blk (fun e => K2.out.ne e.symm)); have HA5 := Lib.hid (hkw5.heap HAA.out (fun e => by have := (K1.out.own.from e.symm).2; have := HAX.out; omega)); have dg5 := (hkw5.cell (p := ⟨g, og + v.at_, none⟩) (World.block_lt_of_cell? _ _ d2') (fun e => K2.out.dis g (Or.inr e) HGR.out)).trans d2'; have d0 : w5.cell? ⟨b, 0, none⟩ = some (.slice (some ⟨g, og, none⟩) v.sl.length v.sc) := (hkw5.cell (p := ⟨b, 0, none⟩) (lt_of_block K2.out.blk) (fun e => K2.out.ne e.symm)).trans d0; have d1 : w5.cell? ⟨b, 1, none⟩ = some (.int .i64 (v.at_ : Nat)) := cell_of HB5.out 1 rfl; have d2' := dg5; have d19 : w5.cell? ⟨b, 19, none⟩ = some (.slice v.ca v.cl.length v.cc) := cell_of HB5.out 19 rfl; have f19 : w5.frozen? ⟨b, 19, none⟩ = false := free_of HB5.out 19; have a0 : w5.cell? ⟨A, 0, none⟩ = some (.int .i64 ((more v).id * 1000000 + (more v).tries)) := cell_of HA5.out 0 rfl; have a1 : w5.cell? ⟨A, 1, none⟩ = some (.int .i64 v.ord.kind) := cell_of HA5.out 1 rfl; have a2 : w5.cell? ⟨A, 2, none⟩ = some (.int .i64 S) := cell_of HA5.out 2 rfl; have a3 : w5.cell? ⟨A, 3, none⟩ = some (.int .i64 Q) := cell_of HA5.out 3 rfl; have a4 : w5.cell? ⟨A, 4, none⟩ = some (.int .i64 v.ord.from_) := cell_of HA5.out 4 rfl; have a5 : w5.cell? ⟨A, 5, none⟩ = some (.int .i64 v.ord.most) := cell_of HA5.out 5 rfl; have a6 : w5.cell? ⟨A, 6, none⟩ = some (.slice da v.ord.dl.length dc) := cell_of HA5.out 6 rfl; have HO5 := Lib.hid ho5; have HK5 := Lib.hid hkw5; have HMV := Lib.hid hmv; clear ho5 hk5 hmv hkw5 dg5
        refine hK.out _ _ ?_ (fun hHeld => ?_)
        · exact ⟨d0, d1, d2', a0, a1, a2, a3, a4, a5, a6⟩
        clear hK K
        try simp only [Act.put]
        refine wpAnyH_take (i := 21) (v := ?_) rfl (by kernel_rfl) (by kernel_rfl) (by kernel_rfl) (fun _ _ _ h => h) (Or.inl ⟨by rfl, ?_⟩) (by assumption) ?_
        rotate_left
        · intro w hSw
          try dsimp only at hSw
          go_simp
          try with_reducible rfl
        try simp only [Act.put]
        refine wpAnyH_take (i := 22) (v := ?_) rfl (by kernel_rfl) (by kernel_rfl) (by kernel_rfl) (fun _ _ _ h => h) (Or.inl ⟨by rfl, ?_⟩) (by assumption) ?_
        rotate_left
        · intro w hSw
          try dsimp only at hSw
          go_simp
          try with_reducible rfl
        try simp only [Act.put]
        refine wpAnyH_ready (rs := [23]) (by kernel_rfl) (by simp) ?_
        refine AllReadyH.cons rfl (fun K hK => ?_) AllReadyH.nil
        go_simp
        refine hK.out _ _ ?_ (fun hHeld => ?_)
        · exact ⟨(by rw [← HSA.out]; exact cell_of (heap_set HB5.out 19 _) 0 rfl), cell_of (heap_set HB5.out 19 _) 1 rfl, cell_far d2' HGB.out, cell_far a0 HAB.out, cell_far a1 HAB.out, cell_far a2 HAB.out, cell_far a3 HAB.out, cell_far a4 HAB.out, cell_far a5 HAB.out, cell_far a6 HAB.out⟩
        clear hK K
        try simp only [Act.put]
        refine wpAnyH_done (by kernel_rfl) ?_ _
        go_wp2
        go_end0
        refine ⟨rfl, ?_⟩
        obtain ⟨R', h1, h2, h3, h4⟩ := ask_end (u := more v) (q := callOf (more v) da dc) HK1.out K1.out HKW.out K2.out HD2.out HF2.out hB HK5.out (by have e : (callOf (more v) da dc).cells = [.int .i64 tz, .int .i64 ((more v).id * 1000000 + (more v).tries), .int .i64 v.ord.kind, .int .i64 S, .int .i64 Q, .int .i64 v.ord.from_, .int .i64 v.ord.most, .slice da v.ord.dl.length dc] := (by rw [HTO.out, HS.out, HQ.out]; rfl); rw [e]; exact HO5.out) (HMV.out.imp_right (fun e g hg => by have e2 := e.symm.trans hg; simp at e2; omega))
        exact ⟨da, dc, R', ca', cc', h1, h2, h3, h4⟩
end Go.Proofs.Ytjhefbkigmamfaa
