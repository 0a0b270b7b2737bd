/-
  Do, walked once. Where the counts are few.
-/
import Derived.Test.YtjhefbkigmamfaaAs
import Derived.Test.YtjhefbkigmamfaaRi
namespace Go.Proofs.Ytjhefbkigmamfaa
open Go.ChangeShapes Go.WideShapes Go.ChangeAt Go.RowKit
set_option linter.unusedVariables false

/-- What Do answers. -/
def doE (v : CV) (o : OrdV) : Int := if rightO o.kind o.from_ o.most o.dl.length = false then 1 else if v.state ≠ 0 then 31 else if o.kind = 2 ∧ v.session = 0 then 40 else 0
/-- A client with a new order, before it asks. -/
def withO (v : CV) (o : OrdV) (da : Option Addr) (dc : Nat) : CV := { v with seq := if o.kind = 2 then v.seq + 1 else v.seq, ord := { o with da := da, dc := dc }, state := 1 }

theorem do_store {w : World} {B : Nat} {R : Nat → Prop} {b X : Nat} {v : CV} (k : Client w B R b v) (hX : ¬ All R b v X) (kk ff mm : Int) {na : Option Addr} {nd : List Int} (nc : Nat) (hr : Row w na (bytes nd)) (hm : nd.length ≤ 140737488355328) (hn : ∀ g, blockOf na = some g → g ≠ X ∧ B ≤ g ∧ g < w.heap.size ∧ ¬ Foot b v.ca g) :
    ∃ R', Client ((((((w.setCell ⟨X, 3, none⟩ (.slice na nd.length nc)).setCell ⟨b, 9, none⟩ (.int .i64 kk)).setCell ⟨b, 10, none⟩ (.int .i64 ff)).setCell ⟨b, 11, none⟩ (.int .i64 mm)).setCell ⟨b, 12, none⟩ (.slice na nd.length nc)).setCell ⟨b, 8, none⟩ (.int .i64 1)) B R' b { v with ord := ⟨kk, ff, mm, na, nd, nc⟩, state := 1 } ∧ (∀ j, R' j → R j ∨ some j = blockOf na) ∧ Kp (fun j => j = b ∨ j = X) w ((((((w.setCell ⟨X, 3, none⟩ (.slice na nd.length nc)).setCell ⟨b, 9, none⟩ (.int .i64 kk)).setCell ⟨b, 10, none⟩ (.int .i64 ff)).setCell ⟨b, 11, none⟩ (.int .i64 mm)).setCell ⟨b, 12, none⟩ (.slice na nd.length nc)).setCell ⟨b, 8, none⟩ (.int .i64 1)) := by
  have hk1 : Kp (fun j => j = X) w (w.setCell ⟨X, 3, none⟩ (.slice na nd.length nc)) := (Kp.refl (fun j => j = X) _).setCell (p := ⟨X, 3, none⟩) (.inl rfl) _
  have k1 := k.kp hk1 (fun j hj e => hX (e ▸ hj))
  have hs1 := hk1.size
  have k2 := k1.more (R' := fun j => R j ∨ some j = blockOf na) (fun j h => .inl h) (fun j hj h => h.elim (k1.dis j hj) (fun e => (hn j e.symm).2.2.2 hj)) (fun j h => h.elim (k1.lt j) (fun e => ⟨(hn j e.symm).2.1, by have := (hn j e.symm).2.2.1; omega⟩))
  have hr1 := hr.kp hk1 (fun g hg e => (hn g hg).1 e)
  generalize w.setCell ⟨X, 3, none⟩ (.slice na nd.length nc) = w1 at hk1 k1 k2 hr1 ⊢
  have hk2 : Kp (fun j => j = b) w1 (((((w1.setCell ⟨b, 9, none⟩ (.int .i64 kk)).setCell ⟨b, 10, none⟩ (.int .i64 ff)).setCell ⟨b, 11, none⟩ (.int .i64 mm)).setCell ⟨b, 12, none⟩ (.slice na nd.length nc)).setCell ⟨b, 8, none⟩ (.int .i64 1)) :=
    (((((Kp.refl (fun j => j = b) _).setCell (p := ⟨b, 9, none⟩) (.inl rfl) _).setCell (p := ⟨b, 10, none⟩) (.inl rfl) _).setCell (p := ⟨b, 11, none⟩) (.inl rfl) _).setCell (p := ⟨b, 12, none⟩) (.inl rfl) _).setCell (p := ⟨b, 8, none⟩) (.inl rfl) _
  refine ⟨fun j => R j ∨ some j = blockOf na, k2.set hk2 { v with ord := ⟨kk, ff, mm, na, nd, nc⟩, state := 1 } ?_ ⟨rfl, rfl, rfl, rfl, rfl, rfl, rfl⟩ k2.at_ ⟨hr1, fun g hg => .inr hg.symm, hm⟩ ⟨k2.ans, k2.ansR, k2.rec_⟩, fun j h => h, (hk1.mono (fun _ _ e => .inr e)).andThen (hk2.mono (S' := fun j => j = b ∨ j = X) (fun _ _ e => .inl e)) (fun _ _ h => h)⟩
  exact heap_set (heap_set (heap_set (heap_set (heap_set k2.blk 9 (.int .i64 kk)) 10 (.int .i64 ff)) 11 (.int .i64 mm)) 12 (.slice na nd.length nc)) 8 (.int .i64 1)

set_option maxRecDepth 100000 in
set_option maxHeartbeats 4000000 in
theorem do_no {w : World} {B : Nat} {R : Nat → Prop} {b : Nat} {v : CV} (k : Client w B R b v) (o : OrdV) (hne : doE v o ≠ 0) : Calls Try.prog 12 #[.pointer (some ⟨b, 0, none⟩), .agg o.cells.toArray] w fun e w' => e = .returned (.int .i64 (doE v o)) ∧ Kp (fun _ => False) w w' := by
  obtain ⟨ok, of_, om, oa, od, oc⟩ := o
  have HRI := Lib.hid (fun w => right28 w ok of_ om oa od.length oc)
  have hka : ∀ o, Kp (fun _ => False) w (w.alloc o) := fun o => (Kp.refl _ _).alloc o
  have HKA := Lib.hid hka
  have HK := Lib.hid (fun o => k.no ((Kp.refl (fun _ => False) w).alloc o))
  have c8 := cell_of k.blk 8 (v := .int .i64 v.state) rfl
  have c5 := cell_of k.blk 5 (v := .int .i64 v.session) rfl
  have hb := lt_of_block k.blk
  show Calls Try.prog 12 #[.pointer (some ⟨b, 0, none⟩), .agg #[.int .i64 ok, .int .i64 of_, .int .i64 om, .slice oa od.length oc]] w _
  cases h1 : rightO ok of_ om od.length with
  | false =>
    have HE := Lib.hid (show doE v ⟨ok, of_, om, oa, od, oc⟩ = 1 by simp [doE, h1])
    rw [h1] at HRI
    clear k hka h1 hne
    go_enter Try.func12, Try.ntmps12
    go_wp2_with (first | (go_at_call 27; refine (none_no (HK.out _)).mono ?_; rintro e w1 ⟨rfl, rfl⟩))
    refine (HRI.out _).mono ?_
    rintro e w2 ⟨rfl, hk2⟩
    go_wp2_with fail
    go_ret
    exact ⟨by rw [HE.out]; rfl, (HKA.out _).trans hk2⟩
  | true =>
    rw [h1] at HRI
    have HX := Lib.hid (heap_new w (.cells #[.int .i64 ok, .int .i64 of_, .int .i64 om, .slice oa od.length oc] 32))
    by_cases h2 : v.state = 0
    · by_cases h3 : ok = 2 ∧ v.session = 0
      · have HE := Lib.hid (show doE v ⟨ok, of_, om, oa, od, oc⟩ = 40 by unfold doE; rw [if_neg (by rw [h1]; simp), if_neg (by simpa using h2), if_pos h3])
        obtain ⟨rfl, h4⟩ := h3
        rw [h2] at c8
        rw [h4] at c5
        have H8 := Lib.hid h2
        have H5 := Lib.hid h4
        clear k hka h1 hne h2 h4 c8 c5
        go_enter Try.func12, Try.ntmps12
        go_wp2_with (first | (go_at_call 27; refine (none_no (HK.out _)).mono ?_; rintro e w1 ⟨rfl, rfl⟩))
        refine (HRI.out _).mono ?_
        rintro e w2 ⟨rfl, hk2⟩
        have c8 : w2.cell? ⟨b, 8, none⟩ = some (.int .i64 0) := by rw [← H8.out]; exact cell_of ((HK.out _).no hk2).blk 8 rfl
        have c5 : w2.cell? ⟨b, 5, none⟩ = some (.int .i64 0) := by rw [← H5.out]; exact cell_of ((HK.out _).no hk2).blk 5 rfl
        have x0 : w2.cell? ⟨w.heap.size, 0, none⟩ = some (.int .i64 2) := cell_of (hk2.heap HX.out (fun h => h)) 0 rfl
        go_wp2_with fail
        go_ret
        exact ⟨by rw [HE.out]; rfl, (HKA.out _).trans hk2⟩
      · exact absurd (by simp [doE, h1, h2, h3]) hne
    · have HE := Lib.hid (show doE v ⟨ok, of_, om, oa, od, oc⟩ = 31 by simp [doE, h1, h2])
      have hsb : (v.state != 0) = true := by simp [h2]
      clear k hka h1 hne h2 c8 c5
      go_enter Try.func12, Try.ntmps12
      go_wp2_with (first | (go_at_call 27; refine (none_no (HK.out _)).mono ?_; rintro e w1 ⟨rfl, rfl⟩))
      refine (HRI.out _).mono ?_
      rintro e w2 ⟨rfl, hk2⟩
      have c8 : w2.cell? ⟨b, 8, none⟩ = some (.int .i64 v.state) := cell_of ((HK.out _).no hk2).blk 8 rfl
      go_wp2_with fail
      go_ret
      exact ⟨by rw [HE.out]; rfl, (HKA.out _).trans hk2⟩

set_option maxRecDepth 100000 in
set_option maxHeartbeats 4000000 in
theorem do_yes {w : World} {B : Nat} {R : Nat → Prop} {b : Nat} {v : CV} (k : Client w B R b v) (o : OrdV) (hE : doE v o = 0) (hr : Row w o.da (bytes o.dl)) (hrb : ∀ g, blockOf o.da = some g → g ≠ b) (hm : o.dl.length ≤ 140737488355328) (hq : Few (v.seq + 1)) (hq0 : 0 ≤ v.seq) (ht : Few (v.tries + 1)) (ht0 : 0 ≤ v.tries) (hc : v.cl.length ≤ 1500000000000) (hB : B ≤ w.heap.size) :
    Calls Try.prog 12 #[.pointer (some ⟨b, 0, none⟩), .agg o.cells.toArray] w fun e w' => e = .returned (.int .i64 0) ∧ ∃ oa oc da dc R' ca' cc', Client w' B R' b { more (withO v o oa oc) with ca := ca', cl := v.cl ++ [callOf (more (withO v o oa oc)) da dc], cc := cc' } ∧ Kp (Foot b v.ca) w w' ∧ (∀ j, R' j → R j ∨ w.heap.size ≤ j) ∧ Moved w v.ca ca' := by
  obtain ⟨ok, of_, om, oa, od, oc⟩ := o
  have h1 : rightO ok of_ om od.length = true := by
    cases h : rightO ok of_ om od.length with
    | true => rfl
    | false => simp [doE, h] at hE
  have h2 : v.state = 0 := by
    refine Classical.byContradiction fun h => ?_
    simp [doE, h1, h] at hE
  have h3 : ¬ (ok = 2 ∧ v.session = 0) := by
    intro h
    unfold doE at hE
    rw [if_neg (by rw [h1]; simp), if_neg (by simpa using h2), if_pos h] at hE
    exact absurd hE (by decide)
  have hri := fun w => right28 w ok of_ om oa od.length oc
  rw [h1] at hri
  have HRI := Lib.hid hri
  have hka : ∀ o, Kp (fun _ => False) w (w.alloc o) := fun o => (Kp.refl _ _).alloc o
  have HKA := Lib.hid hka
  have HK := Lib.hid (fun o => k.no ((Kp.refl (fun _ => False) w).alloc o))
  have HX := Lib.hid (heap_new w (.cells #[.int .i64 ok, .int .i64 of_, .int .i64 om, .slice oa od.length oc] 32))
  have H8 := Lib.hid h2
  have H3 := Lib.hid h3
  have HR := Lib.hid hr
  have HRB := Lib.hid hrb
  have HM := Lib.hid hm
  have HQ := Lib.hid hq
  have HT := Lib.hid ht
  have HT0 := Lib.hid ht0
  have HBS := Lib.hid hB
  have wq : IntKind.i64.wrap (v.seq + 1) = v.seq + 1 := IntWalk.i64_in _ (by have := hq.1; have := hq.2; omega)
  have hblt := lt_of_block k.blk
  have HF := Lib.hid (show ∀ j, All R b v j → B ≤ j ∧ j < w.heap.size from fun j h => k.all h)
  show Calls Try.prog 12 #[.pointer (some ⟨b, 0, none⟩), .agg #[.int .i64 ok, .int .i64 of_, .int .i64 om, .slice oa od.length oc]] w _
  clear k hka h1 h2 h3 hri hr hrb hm hq hq0 ht ht0 hE hB
  by_cases hk2 : ok = 2
  · subst hk2
    have h5 : ¬ v.session = 0 := fun h => H3.out ⟨rfl, h⟩
    have hsb : (v.session == 0) = false := by simpa using h5
    clear h5
    go_enter Try.func12, Try.ntmps12
    go_wp2_with (first | (go_at_call 27; refine (none_no (HK.out _)).mono ?_; rintro e w1 ⟨rfl, rfl⟩))
    refine (HRI.out _).mono ?_
    rintro e w2 ⟨rfl, hk2⟩
    have K2 := Lib.hid ((HK.out _).no hk2)
    have HK2 := Lib.hid ((HKA.out _).trans hk2)
    have HX2 := Lib.hid (hk2.heap HX.out (fun h => h))
    clear hk2
    have c8 : w2.cell? ⟨b, 8, none⟩ = some (.int .i64 0) := by rw [← H8.out]; exact cell_of K2.out.blk 8 rfl
    have c5 : w2.cell? ⟨b, 5, none⟩ = some (.int .i64 v.session) := cell_of K2.out.blk 5 rfl
    have c6 : w2.cell? ⟨b, 6, none⟩ = some (.int .i64 v.seq) := cell_of K2.out.blk 6 rfl
    have f6 := free_of K2.out.blk 6
    have x0 : w2.cell? ⟨w.heap.size, 0, none⟩ = some (.int .i64 2) := cell_of HX2.out 0 rfl
    go_upto_region 10 with fail
    have hk3 : Kp (fun j => j = b) w2 (w2.setCell ⟨b, 6, none⟩ (.int .i64 (v.seq + 1))) := (Kp.refl (fun j => j = b) _).setCell (p := ⟨b, 6, none⟩) (.inl rfl) _
    have k3 : Client (w2.setCell ⟨b, 6, none⟩ (.int .i64 (v.seq + 1))) B R b { v with seq := v.seq + 1 } :=
      K2.out.set hk3 { v with seq := v.seq + 1 } (heap_set K2.out.blk 6 (.int .i64 (v.seq + 1))) ⟨rfl, rfl, rfl, rfl, rfl, rfl, rfl⟩ K2.out.at_ ⟨K2.out.ord, K2.out.ordR, K2.out.ordL⟩ ⟨K2.out.ans, K2.out.ansR, K2.out.rec_⟩
    have hx3 := hk3.heap HX2.out (fun e => by omega)
    generalize w2.setCell ⟨b, 6, none⟩ (.int .i64 (v.seq + 1)) = w3 at hk3 k3 hx3 ⊢
    obtain ⟨sq, hsq⟩ : ∃ sq, sq = v.seq + 1 := ⟨_, rfl⟩
    rw [← hsq] at k3 ⊢
    have HSQ := Lib.hid (show sq = if (2 : Int) = 2 then v.seq + 1 else v.seq by rw [if_pos rfl]; exact hsq)
    have HK3 := Lib.hid (show Kp (fun j => j = b) w w3 from (HK2.out.mono (S' := fun j => j = b) (fun _ _ h => h.elim)).trans hk3)
    have K3 := Lib.hid k3
    have HX3 := Lib.hid hx3
    have d3 : w3.cell? ⟨w.heap.size, 3, none⟩ = some (.slice oa od.length oc) := cell_of HX3.out 3 rfl
    clear hk3 k3 hx3 hsq K2 HK2 HX2
    go_wp2_with fail
    refine (clone_bytes ((HR.out.kp HK3.out (fun g hg e => HRB.out g hg e))) HM.out oc).mono ?_
    rintro e w4 ⟨na, nc, rfl, ho4, hk4⟩
    have K4 := Lib.hid (K3.out.no hk4)
    have HX4 := Lib.hid (hk4.heap HX3.out (fun h => h))
    have HO4 := Lib.hid ho4
    have HK4 := Lib.hid hk4
    have HN := Lib.hid (show ∀ g, blockOf na = some g → w.heap.size < g ∧ g < w4.heap.size from fun g hg => by have q1 := ho4.from hg; have q2 := lt_of_block HX3.out; omega)
    clear hk4 ho4 d3
    have x0 : w4.cell? ⟨w.heap.size, 0, none⟩ = some (.int .i64 2) := cell_of HX4.out 0 rfl
    have x1 : w4.cell? ⟨w.heap.size, 1, none⟩ = some (.int .i64 of_) := cell_of HX4.out 1 rfl
    have x2 : w4.cell? ⟨w.heap.size, 2, none⟩ = some (.int .i64 om) := cell_of HX4.out 2 rfl
    have x3 : w4.cell? ⟨w.heap.size, 3, none⟩ = some (.slice oa od.length oc) := cell_of HX4.out 3 rfl
    have xf := free_of HX4.out 3
    have c8 := cell_of K4.out.blk 8 (v := .int .i64 v.state) rfl
    have c9 := cell_of K4.out.blk 9 (v := .int .i64 v.ord.kind) rfl
    have c10 := cell_of K4.out.blk 10 (v := .int .i64 v.ord.from_) rfl
    have c11 := cell_of K4.out.blk 11 (v := .int .i64 v.ord.most) rfl
    have c12 := cell_of K4.out.blk 12 (v := .slice v.ord.da v.ord.dl.length v.ord.dc) rfl
    have f8 := free_of K4.out.blk 8
    have f9 := free_of K4.out.blk 9
    have f10 := free_of K4.out.blk 10
    have f11 := free_of K4.out.blk 11
    have f12 := free_of K4.out.blk 12
    have hbx : ¬ b = w.heap.size := by omega
    have hxb : ¬ w.heap.size = b := by omega
    go_upto_region 12 with fail
    obtain ⟨R5, k5, hr5, hk5⟩ := do_store (X := w.heap.size) K4.out (fun h => absurd (HF.out _ h).2 (Nat.lt_irrefl _)) 2 of_ om nc HO4.out.row HM.out (fun g hg => ⟨by have := HN.out g hg; omega, by have := HN.out g hg; have := HBS.out; omega, (HN.out g hg).2, fun h => by have := (HF.out g (.inl h)).2; have := HN.out g hg; omega⟩)
    generalize ((((((w4.setCell ⟨w.heap.size, 3, none⟩ (.slice na od.length nc)).setCell ⟨b, 9, none⟩ (.int .i64 2)).setCell ⟨b, 10, none⟩ (.int .i64 of_)).setCell ⟨b, 11, none⟩ (.int .i64 om)).setCell ⟨b, 12, none⟩ (.slice na od.length nc)).setCell ⟨b, 8, none⟩ (.int .i64 1)) = w5 at k5 hk5 ⊢
    have hs5 : w.heap.size ≤ w5.heap.size := by have := HK3.out.size; have := HK4.out.size; have := hk5.size; omega
    have HKK := Lib.hid (show Kp (fun j => j = b) w w5 from (HK3.out.andThen (S' := fun _ => False) HK4.out (fun _ _ h => h.elim)).andThen hk5 (fun i hi h => h.elim (fun e => e) (fun e => by omega)))
    have HR5 := Lib.hid (show ∀ j, R5 j → R j ∨ w.heap.size ≤ j from fun j h => (hr5 j h).imp_right (fun e => by have := (HN.out j e.symm).1; omega))
    have e5 : ({ { v with seq := sq } with ord := ⟨2, of_, om, na, od, nc⟩, state := 1 } : CV) = withO v ⟨2, of_, om, oa, od, oc⟩ na nc := by rw [HSQ.out]; rfl
    rw [e5] at k5
    have K5 := Lib.hid k5
    clear k5 hr5 hk5 e5 x0 x1 x2 x3 xf c8 c9 c10 c11 c12 f8 f9 f10 f11 f12 K4 HX4 HO4 HK4 K3 HX3
    go_wp2_with fail
    refine (ask_any K5.out HT.out HT0.out hc (by have := HBS.out; omega)).mono ?_
    rintro e w6 ⟨rfl, da, dc, R', ca', cc', k6, hk6, hr6, hm6⟩
    have K6 := Lib.hid k6
    have HK6 := Lib.hid (show Kp (Foot b v.ca) w w6 from (HKK.out.mono (S' := Foot b v.ca) (fun _ _ h => .inl h)).trans hk6)
    have HR6 := Lib.hid hr6
    have HM6 := Lib.hid hm6
    clear k6 hk6 hr6 hm6
    go_wp2_with fail
    go_ret
    exact ⟨rfl, na, nc, da, dc, R', ca', cc', K6.out, HK6.out, fun j h => (HR6.out j h).elim (HR5.out j) (fun h => .inr (by omega)), HM6.out.imp_right (fun h g hg => by have := h g hg; omega)⟩
  · have hkb : (ok == 2) = false := by simpa using hk2
    have HKN := Lib.hid hk2
    clear hk2
    go_enter Try.func12, Try.ntmps12
    go_wp2_with (first | (go_at_call 27; refine (none_no (HK.out _)).mono ?_; rintro e w1 ⟨rfl, rfl⟩))
    refine (HRI.out _).mono ?_
    rintro e w2 ⟨rfl, hk2⟩
    have K2 := Lib.hid ((HK.out _).no hk2)
    have HK2 := Lib.hid ((HKA.out _).trans hk2)
    have HX2 := Lib.hid (hk2.heap HX.out (fun h => h))
    clear hk2
    have c8 : w2.cell? ⟨b, 8, none⟩ = some (.int .i64 0) := by rw [← H8.out]; exact cell_of K2.out.blk 8 rfl
    have x0 : w2.cell? ⟨w.heap.size, 0, none⟩ = some (.int .i64 ok) := cell_of HX2.out 0 rfl
    go_upto_region 10 with fail
    have hk3 : Kp (fun j => j = b) w w2 := HK2.out.mono (S' := fun j => j = b) (fun _ _ h => h.elim)
    have k3 : Client w2 B R b { v with seq := v.seq } := K2.out
    have hx3 := HX2.out
    obtain ⟨w3, hw3⟩ : ∃ w3, w3 = w2 := ⟨_, rfl⟩
    rw [← hw3] at hk3 k3 hx3 ⊢
    obtain ⟨sq, hsq⟩ : ∃ sq, sq = v.seq := ⟨_, rfl⟩
    have k3 : Client w3 B R b { v with seq := sq } := by rw [hsq]; exact k3
    have HSQ := Lib.hid (show sq = if ok = 2 then v.seq + 1 else v.seq by rw [if_neg HKN.out]; exact hsq)
    have HK3 := Lib.hid hk3
    have K3 := Lib.hid k3
    have HX3 := Lib.hid hx3
    have d3 : w3.cell? ⟨w.heap.size, 3, none⟩ = some (.slice oa od.length oc) := cell_of HX3.out 3 rfl
    clear hk3 k3 hx3 hsq K2 HK2 HX2 hw3
    go_wp2_with fail
    refine (clone_bytes ((HR.out.kp HK3.out (fun g hg e => HRB.out g hg e))) HM.out oc).mono ?_
    rintro e w4 ⟨na, nc, rfl, ho4, hk4⟩
    have K4 := Lib.hid (K3.out.no hk4)
    have HX4 := Lib.hid (hk4.heap HX3.out (fun h => h))
    have HO4 := Lib.hid ho4
    have HK4 := Lib.hid hk4
    have HN := Lib.hid (show ∀ g, blockOf na = some g → w.heap.size < g ∧ g < w4.heap.size from fun g hg => by have q1 := ho4.from hg; have q2 := lt_of_block HX3.out; omega)
    clear hk4 ho4 d3
    have x0 : w4.cell? ⟨w.heap.size, 0, none⟩ = some (.int .i64 ok) := cell_of HX4.out 0 rfl
    have x1 : w4.cell? ⟨w.heap.size, 1, none⟩ = some (.int .i64 of_) := cell_of HX4.out 1 rfl
    have x2 : w4.cell? ⟨w.heap.size, 2, none⟩ = some (.int .i64 om) := cell_of HX4.out 2 rfl
    have x3 : w4.cell? ⟨w.heap.size, 3, none⟩ = some (.slice oa od.length oc) := cell_of HX4.out 3 rfl
    have xf := free_of HX4.out 3
    have c8 := cell_of K4.out.blk 8 (v := .int .i64 v.state) rfl
    have c9 := cell_of K4.out.blk 9 (v := .int .i64 v.ord.kind) rfl
    have c10 := cell_of K4.out.blk 10 (v := .int .i64 v.ord.from_) rfl
    have c11 := cell_of K4.out.blk 11 (v := .int .i64 v.ord.most) rfl
    have c12 := cell_of K4.out.blk 12 (v := .slice v.ord.da v.ord.dl.length v.ord.dc) rfl
    have f8 := free_of K4.out.blk 8
    have f9 := free_of K4.out.blk 9
    have f10 := free_of K4.out.blk 10
    have f11 := free_of K4.out.blk 11
    have f12 := free_of K4.out.blk 12
    have hbx : ¬ b = w.heap.size := by omega
    have hxb : ¬ w.heap.size = b := by omega
    go_upto_region 12 with fail
    obtain ⟨R5, k5, hr5, hk5⟩ := do_store (X := w.heap.size) K4.out (fun h => absurd (HF.out _ h).2 (Nat.lt_irrefl _)) ok of_ om nc HO4.out.row HM.out (fun g hg => ⟨by have := HN.out g hg; omega, by have := HN.out g hg; have := HBS.out; omega, (HN.out g hg).2, fun h => by have := (HF.out g (.inl h)).2; have := HN.out g hg; omega⟩)
    generalize ((((((w4.setCell ⟨w.heap.size, 3, none⟩ (.slice na od.length nc)).setCell ⟨b, 9, none⟩ (.int .i64 ok)).setCell ⟨b, 10, none⟩ (.int .i64 of_)).setCell ⟨b, 11, none⟩ (.int .i64 om)).setCell ⟨b, 12, none⟩ (.slice na od.length nc)).setCell ⟨b, 8, none⟩ (.int .i64 1)) = w5 at k5 hk5 ⊢
    have hs5 : w.heap.size ≤ w5.heap.size := by have := HK3.out.size; have := HK4.out.size; have := hk5.size; omega
    have HKK := Lib.hid (show Kp (fun j => j = b) w w5 from (HK3.out.andThen (S' := fun _ => False) HK4.out (fun _ _ h => h.elim)).andThen hk5 (fun i hi h => h.elim (fun e => e) (fun e => by omega)))
    have HR5 := Lib.hid (show ∀ j, R5 j → R j ∨ w.heap.size ≤ j from fun j h => (hr5 j h).imp_right (fun e => by have := (HN.out j e.symm).1; omega))
    have e5 : ({ { v with seq := sq } with ord := ⟨ok, of_, om, na, od, nc⟩, state := 1 } : CV) = withO v ⟨ok, of_, om, oa, od, oc⟩ na nc := by rw [HSQ.out]; rfl
    rw [e5] at k5
    have K5 := Lib.hid k5
    clear k5 hr5 hk5 e5 x0 x1 x2 x3 xf c8 c9 c10 c11 c12 f8 f9 f10 f11 f12 K4 HX4 HO4 HK4 K3 HX3
    go_wp2_with fail
    refine (ask_any K5.out HT.out HT0.out hc (by have := HBS.out; omega)).mono ?_
    rintro e w6 ⟨rfl, da, dc, R', ca', cc', k6, hk6, hr6, hm6⟩
    have K6 := Lib.hid k6
    have HK6 := Lib.hid (show Kp (Foot b v.ca) w w6 from (HKK.out.mono (S' := Foot b v.ca) (fun _ _ h => .inl h)).trans hk6)
    have HR6 := Lib.hid hr6
    have HM6 := Lib.hid hm6
    clear k6 hk6 hr6 hm6
    go_wp2_with fail
    go_ret
    exact ⟨rfl, na, nc, da, dc, R', ca', cc', K6.out, HK6.out, fun j h => (HR6.out j h).elim (HR5.out j) (fun h => .inr (by omega)), HM6.out.imp_right (fun h g hg => by have := h g hg; omega)⟩
end Go.Proofs.Ytjhefbkigmamfaa
