/-
  The document's Do, walked once. Where the counts are few.
-/
import Derived.Test.YtjhefbkigmamfaaRl
namespace Go.Proofs.Ytjhefbkigmamfaa
open Go.ChangeShapes Go.WideShapes Go.ChangeAt Go.RowKit
set_option linter.unusedVariables false
set_option linter.unusedSimpArgs false

set_option maxRecDepth 100000 in
set_option maxHeartbeats 4000000 in
theorem rdo_no {w : World} {B : Nat} {R : Nat → Prop} {b : Nat} {v : CV} (k : RC w B R b v) (o : OrdV) (hne : doE v o ≠ 0) : Calls Try.prog 36 #[.pointer (some ⟨b, 0, none⟩), .agg o.cells.toArray] w fun e w' => e = .returned (.int .i64 (doE v o)) ∧ Kp (fun _ => False) w w' := by
  obtain ⟨ok, of_, om, oa, od, oc⟩ := o
  have HRI := Lib.hid (fun w => right46 w ok of_ om oa od.length oc)
  have hka : ∀ o, Kp (fun _ => False) w (w.alloc o) := fun o => (Kp.refl _ _).alloc o
  have HKA := Lib.hid hka
  have HK := Lib.hid (fun o => k.no ((Kp.refl (fun _ => False) w).alloc o))
  have c8 := cell_of k.blk 8 (v := .int .i64 v.state) rfl
  have c5 := cell_of k.blk 3 (v := .int .i64 v.session) rfl
  have hb := lt_of_block k.blk
  show Calls Try.prog 36 #[.pointer (some ⟨b, 0, none⟩), .agg #[.int .i64 ok, .int .i64 of_, .int .i64 om, .slice oa od.length oc]] w _
  cases h1 : rightO ok of_ om od.length with
  | false =>
    have HE := Lib.hid (show doE v ⟨ok, of_, om, oa, od, oc⟩ = 1 by simp [doE, h1])
    rw [h1] at HRI
    clear k hka h1 hne
    go_enter Try.func36, Try.ntmps36
    go_wp2_with fail
    refine (HRI.out _).mono ?_
    rintro e w2 ⟨rfl, hk2⟩
    go_wp2_with fail
    go_ret
    exact ⟨by rw [HE.out]; rfl, (HKA.out _).trans hk2⟩
  | true =>
    rw [h1] at HRI
    have HX := Lib.hid (heap_new w (.cells #[.int .i64 ok, .int .i64 of_, .int .i64 om, .slice oa od.length oc] 54))
    by_cases h2 : v.state = 0
    · by_cases h3 : ok = 2 ∧ v.session = 0
      · have HE := Lib.hid (show doE v ⟨ok, of_, om, oa, od, oc⟩ = 40 by unfold doE; rw [if_neg (by rw [h1]; simp), if_neg (by simpa using h2), if_pos h3])
        obtain ⟨rfl, h4⟩ := h3
        rw [h2] at c8
        rw [h4] at c5
        have H8 := Lib.hid h2
        have H5 := Lib.hid h4
        clear k hka h1 hne h2 h4 c8 c5
        go_enter Try.func36, Try.ntmps36
        go_wp2_with fail
        refine (HRI.out _).mono ?_
        rintro e w2 ⟨rfl, hk2⟩
        have c8 : w2.cell? ⟨b, 8, none⟩ = some (.int .i64 0) := by rw [← H8.out]; exact cell_of ((HK.out _).no hk2).blk 8 rfl
        have c5 : w2.cell? ⟨b, 3, none⟩ = some (.int .i64 0) := by rw [← H5.out]; exact cell_of ((HK.out _).no hk2).blk 3 rfl
        have x0 : w2.cell? ⟨w.heap.size, 0, none⟩ = some (.int .i64 2) := cell_of (hk2.heap HX.out (fun h => h)) 0 rfl
        go_wp2_with fail
        go_ret
        exact ⟨by rw [HE.out]; rfl, (HKA.out _).trans hk2⟩
      · exact absurd (by simp [doE, h1, h2, h3]) hne
    · have HE := Lib.hid (show doE v ⟨ok, of_, om, oa, od, oc⟩ = 31 by simp [doE, h1, h2])
      have hsb : (v.state != 0) = true := by simp [h2]
      clear k hka h1 hne h2 c8 c5
      go_enter Try.func36, Try.ntmps36
      go_wp2_with fail
      refine (HRI.out _).mono ?_
      rintro e w2 ⟨rfl, hk2⟩
      have c8 : w2.cell? ⟨b, 8, none⟩ = some (.int .i64 v.state) := cell_of ((HK.out _).no hk2).blk 8 rfl
      go_wp2_with fail
      go_ret
      exact ⟨by rw [HE.out]; rfl, (HKA.out _).trans hk2⟩

theorem rdo_set {w w' : World} {B : Nat} {R : Nat → Prop} {b : Nat} {v : CV} (k : RC w B R b v) (hk : Kp (fun j => j = b) w w') (kk ff mm : Int) {na : Option Addr} {nd : List Int} (nc : Nat) (hb : w'.heap[b]? = some (.cells ({ v with ord := ⟨kk, ff, mm, na, nd, nc⟩, state := 1 } : CV).rcells 76 (0, 0)))
    (hr : Row w na (bytes nd)) (hm : nd.length ≤ 140737488355328) (hn : ∀ g, blockOf na = some g → B ≤ g ∧ g < w.heap.size ∧ ¬ Foot b v.ca g) :
    ∃ R', RC w' B R' b { v with ord := ⟨kk, ff, mm, na, nd, nc⟩, state := 1 } ∧ ∀ j, R' j → R j ∨ some j = blockOf na := by
  have k1 := k.more (R' := fun j => R j ∨ some j = blockOf na) (fun j h => .inl h) (fun j h h2 => h2.elim (k.dis j h) (fun e => (hn j e.symm).2.2 h)) (fun j h => h.elim (k.lt j) (fun e => ⟨(hn j e.symm).1, (hn j e.symm).2.1⟩))
  exact ⟨_, k1.set hk _ hb ⟨rfl, rfl, rfl, rfl, rfl, rfl, rfl⟩ k1.at_ ⟨hr, fun g hg => .inr hg.symm, hm⟩ ⟨k1.ans, k1.rec_⟩, fun j h => h⟩

set_option maxRecDepth 100000 in
set_option maxHeartbeats 4000000 in
theorem rdo_yes {w : World} {B : Nat} {R : Nat → Prop} {b : Nat} {v : CV} (k : RC w B R b v) (o : OrdV) (hE : doE v o = 0) (hr : Row w o.da (bytes o.dl)) (hm : o.dl.length ≤ 140737488355328) (hq : Few (v.seq + 1)) (hq0 : 0 ≤ v.seq) (ht : Few (v.tries + 1)) (ht0 : 0 ≤ v.tries) (hc : v.cl.length ≤ 1500000000000) (hB : B ≤ w.heap.size) :
    Calls Try.prog 36 #[.pointer (some ⟨b, 0, none⟩), .agg o.cells.toArray] w fun e w' => e = .returned (.int .i64 0) ∧ ∃ oa oc da dc R' ca' cc', RC w' B R' b { more (withO v o oa oc) with ca := ca', cl := v.cl ++ [callOf (more (withO v o oa oc)) da dc], cc := cc' } ∧ Kp (Foot b v.ca) w w' ∧ (∀ j, R' j → R j ∨ w.heap.size ≤ j) ∧ Moved w v.ca ca' := by
  obtain ⟨ok, of_, om, oa, od, oc⟩ := o
  have h1 : rightO ok of_ om od.length = true := by
    cases h : rightO ok of_ om od.length with
    | true => rfl
    | false => simp [doE, h] at hE
  have h2 : v.state = 0 := by
    refine Classical.byContradiction fun h => ?_
    simp [doE, h1, h] at hE
  have h3 : ¬ (ok = 2 ∧ v.session = 0) := by
    intro h
    unfold doE at hE
    rw [if_neg (by rw [h1]; simp), if_neg (by simpa using h2), if_pos h] at hE
    exact absurd hE (by decide)
  have hri := fun w => right46 w ok of_ om oa od.length oc
  rw [h1] at hri
  have HRI := Lib.hid hri
  have hka := (Kp.refl (fun _ => False) w).alloc (.cells #[.int .i64 ok, .int .i64 of_, .int .i64 om, .slice oa od.length oc] 54)
  have HKA := Lib.hid hka
  have HK := Lib.hid (k.no hka)
  have HX := Lib.hid (heap_new w (.cells #[.int .i64 ok, .int .i64 of_, .int .i64 om, .slice oa od.length oc] 54))
  have H8 := Lib.hid h2
  have H3 := Lib.hid h3
  have HR := Lib.hid hr
  have HM := Lib.hid hm
  have HT := Lib.hid ht
  have HBS := Lib.hid hB
  have wq : IntKind.i64.wrap (v.seq + 1) = v.seq + 1 := IntWalk.i64_in _ (by have := hq.1; have := hq.2; omega)
  have hblt := lt_of_block k.blk
  have HF := Lib.hid (show ∀ j, All R b v j → B ≤ j ∧ j < w.heap.size from fun j h => k.all h)
  have hbx : ¬ b = w.heap.size := by omega
  have hxb : ¬ w.heap.size = b := by omega
  show Calls Try.prog 36 #[.pointer (some ⟨b, 0, none⟩), .agg #[.int .i64 ok, .int .i64 of_, .int .i64 om, .slice oa od.length oc]] w _
  clear k hka h1 h2 h3 hri hr hm hq hq0 ht hE hB
  go_enter Try.func36, Try.ntmps36
  go_wp2_with fail
  refine (HRI.out _).mono ?_
  rintro e w2 ⟨rfl, hk2⟩
  have K2 := Lib.hid (HK.out.no hk2)
  have HK2 := Lib.hid (HKA.out.trans hk2)
  have HX2 := Lib.hid (hk2.heap HX.out (fun h => h))
  have hX0 := lt_of_block HX.out
  have hw2 := hk2.size
  clear hk2 HK HKA HX
  have c8 : w2.cell? ⟨b, 8, none⟩ = some (.int .i64 0) := by rw [← H8.out]; exact cell_of K2.out.blk 8 rfl
  have c3 := cell_of K2.out.blk 3 (v := .int .i64 v.session) rfl
  have x0 : w2.cell? ⟨w.heap.size, 0, none⟩ = some (.int .i64 ok) := cell_of HX2.out 0 rfl
  have hor : (ok == 2) = false ∨ ((ok == 2) = true ∧ (v.session == 0) = false) := by
    by_cases e : ok = 2
    · exact .inr ⟨by simp [e], by simpa using fun h => H3.out ⟨e, h⟩⟩
    · exact .inl (by simpa using e)
  rcases hor with p1 | ⟨p1, p2⟩
  all_goals
    (go_upto_region 7 with fail
     have d3 : w2.cell? ⟨w.heap.size, 3, none⟩ = some (.slice oa od.length oc) := cell_of HX2.out 3 rfl
     have d3' := cell_old (.cells #[] 5) d3
     go_wp2_with (at_builtin; refine Stop.mk ?_)
     unfold Stop
     refine wpList_app rfl _ _ 30 rfl w2.heap.size 5 info5 Try.underlying30 rfl (by decide) rfl (Owns.lit (heap_new w2 _) (Nat.le_refl _)) (b := oa) (m := od.length) (c := oc) (news := bytes od) rfl (by rw [bytes_length]; omega) ((HR.out.no (HK2.out.alloc _)).news) (one_bytes od) (by have := HM.out; unfold maxLen; omega) (by have := HM.out; omega) (by simp) ?_
     intro na nc w3 ho hk3
     rw [Nat.zero_add, List.nil_append] at ho
     rw [Nat.zero_add]
     have hk3' : Kp (fun j => j = w2.heap.size) (w2.alloc (.cells #[] 5)) w3 := hk3.mono (fun j _ h => Option.some.inj h)
     have hk23 : Kp (fun _ => False) w2 w3 := ((Kp.refl (fun _ => False) w2).alloc (.cells #[] 5)).andThen hk3' (fun i hi (e : i = w2.heap.size) => by omega)
     have K3 := Lib.hid (K2.out.no hk23)
     have HK3 := Lib.hid (HK2.out.trans hk23)
     have hx3 := hk23.heap HX2.out (fun h => h)
     have HO3 := Lib.hid ho
     clear ho hk3 hk3' hk23 d3 d3' c8 c3 x0 K2 HX2 HK2
     have d3 := cell_of hx3 3 (v := .slice oa od.length oc) rfl
     have f3 := free_of hx3 3
     have HX3 := Lib.hid hx3
     clear hx3
     go_upto_region 8 with fail
     clear d3 f3
     have hk4 : Kp (fun j => j = w.heap.size) w3 (w3.setCell ⟨w.heap.size, 3, none⟩ (.slice na od.length nc)) := (Kp.refl (fun j => j = w.heap.size) _).setCell (p := ⟨w.heap.size, 3, none⟩) (.inl rfl) _
     have hx4 := heap_set HX3.out 3 (.slice na od.length nc)
     have k4 := K3.out.kp hk4 (fun j hj (e : j = w.heap.size) => by have := (HF.out j hj).2; omega) (fun j (e : j = w.heap.size) => by have := HBS.out; omega)
     have HO4 := Lib.hid (HO3.out.kp hk4 (fun g hg (e : g = w.heap.size) => by have := (HO3.out.from hg).1; omega))
     have HK4 := Lib.hid (HK3.out.andThen hk4 (fun i hi (e : i = w.heap.size) => by omega))
     have K4 := Lib.hid k4
     clear hk4 k4 HX3 K3 HK3 HO3
     generalize w3.setCell ⟨w.heap.size, 3, none⟩ (.slice na od.length nc) = w4 at hx4 HO4 HK4 K4 ⊢
     have x0 := cell_of hx4 0 (v := .int .i64 ok) rfl
     have x1 := cell_of hx4 1 (v := .int .i64 of_) rfl
     have x2 := cell_of hx4 2 (v := .int .i64 om) rfl
     have x3 := cell_of hx4 3 (v := .slice na od.length nc) rfl
     have c8 := cell_of K4.out.blk 8 (v := .int .i64 v.state) rfl
     have c9 := cell_of K4.out.blk 9 (v := .int .i64 v.ord.kind) rfl
     have c10 := cell_of K4.out.blk 10 (v := .int .i64 v.ord.from_) rfl
     have c11 := cell_of K4.out.blk 11 (v := .int .i64 v.ord.most) rfl
     have c12 := cell_of K4.out.blk 12 (v := .slice v.ord.da v.ord.dl.length v.ord.dc) rfl
     have f8 := free_of K4.out.blk 8
     have f9 := free_of K4.out.blk 9
     have f10 := free_of K4.out.blk 10
     have f11 := free_of K4.out.blk 11
     have f12 := free_of K4.out.blk 12
     have HX4 := Lib.hid hx4
     clear hx4
     go_upto_region 10 with fail
     clear x0 x1 x2 x3 c8 c9 c10 c11 c12 f8 f9 f10 f11 f12
     have hk5 : Kp (fun j => j = b) w4 (((((w4.setCell ⟨b, 9, none⟩ (.int .i64 ok)).setCell ⟨b, 10, none⟩ (.int .i64 of_)).setCell ⟨b, 11, none⟩ (.int .i64 om)).setCell ⟨b, 12, none⟩ (.slice na od.length nc)).setCell ⟨b, 8, none⟩ (.int .i64 1)) := (((((Kp.refl (fun j => j = b) w4).setCell (p := ⟨b, 9, none⟩) (.inl rfl) (.int .i64 ok)).setCell (p := ⟨b, 10, none⟩) (.inl rfl) (.int .i64 of_)).setCell (p := ⟨b, 11, none⟩) (.inl rfl) (.int .i64 om)).setCell (p := ⟨b, 12, none⟩) (.inl rfl) (.slice na od.length nc)).setCell (p := ⟨b, 8, none⟩) (.inl rfl) (.int .i64 1)
     have hna : ∀ g, blockOf na = some g → w.heap.size < g ∧ g < w4.heap.size := fun g hg => by have q1 := HO4.out.from hg; omega
     obtain ⟨R5, k5, hr5⟩ := rdo_set K4.out hk5 ok of_ om nc (heap_set (heap_set (heap_set (heap_set (heap_set K4.out.blk 9 (.int .i64 ok)) 10 (.int .i64 of_)) 11 (.int .i64 om)) 12 (.slice na od.length nc)) 8 (.int .i64 1)) HO4.out.row HM.out (fun g hg => ⟨by have := hna g hg; have := HBS.out; omega, (hna g hg).2, fun h => by have := (HF.out g (.inl h)).2; have := hna g hg; omega⟩)
     have hx5 := hk5.heap HX4.out hxb
     have HKK := Lib.hid ((HK4.out.mono (S' := fun j => j = b) (fun _ _ h => h.elim)).trans hk5)
     have HR5 := Lib.hid (show ∀ j, R5 j → R j ∨ w.heap.size ≤ j from fun j h => (hr5 j h).imp_right (fun e => by have := (hna j e.symm).1; omega))
     have K5 := Lib.hid k5
     clear hk5 k5 hr5 hna HX4 HO4 HK4 K4
     generalize (((((w4.setCell ⟨b, 9, none⟩ (.int .i64 ok)).setCell ⟨b, 10, none⟩ (.int .i64 of_)).setCell ⟨b, 11, none⟩ (.int .i64 om)).setCell ⟨b, 12, none⟩ (.slice na od.length nc)).setCell ⟨b, 8, none⟩ (.int .i64 1)) = w5 at hx5 HKK K5 ⊢
     have x0 := cell_of hx5 0 (v := .int .i64 ok) rfl
     clear hx5)
  · have e6 : ({ v with ord := ⟨ok, of_, om, na, od, nc⟩, state := 1 } : CV) = withO v ⟨ok, of_, om, oa, od, oc⟩ na nc := by
      unfold withO
      rw [if_neg (by simpa using p1)]
    have K6 := Lib.hid (e6 ▸ K5.out)
    clear K5 e6
    go_wp2_with fail
    have hs5 := HKK.out.size
    refine (rask_any K6.out HT.out ht0 hc (by have := HBS.out; omega)).mono ?_
    rintro e w6 ⟨rfl, da, dc, R', ca', cc', k6, hk6, hr6, hm6⟩
    have K7 := Lib.hid k6
    have HK7 := Lib.hid (show Kp (Foot b v.ca) w w6 from (HKK.out.mono (S' := Foot b v.ca) (fun _ _ h => .inl h)).trans hk6)
    have HR6 := Lib.hid hr6
    have HM6 := Lib.hid hm6
    clear k6 hk6 hr6 hm6
    go_wp2_with fail
    go_ret
    first | exact ⟨rfl, na, nc, da, dc, R', ca', cc', K7.out, HK7.out, fun j h => (HR6.out j h).elim (HR5.out j) (fun h => .inr (by omega)), HM6.out.imp_right (fun h g hg => by have := h g hg; omega)⟩ | exact ⟨rfl, na, nc, da, dc, R', ca', ⟨cc', K7.out⟩, HK7.out, fun j h => (HR6.out j h).elim (HR5.out j) (fun h => .inr (by omega)), HM6.out.imp_right (fun h g hg => by have := h g hg; omega)⟩
  · have c4 := cell_of K5.out.blk 4 (v := .int .i64 v.seq) rfl
    have f4 := free_of K5.out.blk 4
    go_upto_region 12 with fail
    have hk6 : Kp (fun j => j = b) w5 (w5.setCell ⟨b, 4, none⟩ (.int .i64 (v.seq + 1))) := (Kp.refl (fun j => j = b) _).setCell (p := ⟨b, 4, none⟩) (.inl rfl) _
    have k6 : RC (w5.setCell ⟨b, 4, none⟩ (.int .i64 (v.seq + 1))) B R5 b { v with ord := ⟨ok, of_, om, na, od, nc⟩, state := 1, seq := v.seq + 1 } := K5.out.set hk6 _ (heap_set K5.out.blk 4 (.int .i64 (v.seq + 1))) ⟨rfl, rfl, rfl, rfl, rfl, rfl, rfl⟩ K5.out.at_ ⟨K5.out.ord, K5.out.ordR, K5.out.ordL⟩ ⟨K5.out.ans, K5.out.rec_⟩
    have e6 : ({ v with ord := ⟨ok, of_, om, na, od, nc⟩, state := 1, seq := v.seq + 1 } : CV) = withO v ⟨ok, of_, om, oa, od, oc⟩ na nc := by
      unfold withO
      rw [if_pos (by simpa using p1)]
    have K6 := Lib.hid (e6 ▸ k6)
    replace HKK := Lib.hid (HKK.out.trans hk6)
    clear K5 e6 hk6 k6 c4 f4
    generalize w5.setCell ⟨b, 4, none⟩ (.int .i64 (v.seq + 1)) = w5 at HKK K6 ⊢
    go_wp2_with fail
    have hs5 := HKK.out.size
    refine (rask_any K6.out HT.out ht0 hc (by have := HBS.out; omega)).mono ?_
    rintro e w6 ⟨rfl, da, dc, R', ca', cc', k6, hk6, hr6, hm6⟩
    have K7 := Lib.hid k6
    have HK7 := Lib.hid (show Kp (Foot b v.ca) w w6 from (HKK.out.mono (S' := Foot b v.ca) (fun _ _ h => .inl h)).trans hk6)
    have HR6 := Lib.hid hr6
    have HM6 := Lib.hid hm6
    clear k6 hk6 hr6 hm6
    go_wp2_with fail
    go_ret
    first | exact ⟨rfl, na, nc, da, dc, R', ca', cc', K7.out, HK7.out, fun j h => (HR6.out j h).elim (HR5.out j) (fun h => .inr (by omega)), HM6.out.imp_right (fun h g hg => by have := h g hg; omega)⟩ | exact ⟨rfl, na, nc, da, dc, R', ca', ⟨cc', K7.out⟩, HK7.out, fun j h => (HR6.out j h).elim (HR5.out j) (fun h => .inr (by omega)), HM6.out.imp_right (fun h g hg => by have := h g hg; omega)⟩
end Go.Proofs.Ytjhefbkigmamfaa
