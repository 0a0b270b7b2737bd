/-
  The document's Heard, walked once. Where the counts are few.
-/
import Derived.Test.YtjhefbkigmamfaaRd
namespace Go.Proofs.Ytjhefbkigmamfaa
open Go.ChangeShapes Go.WideShapes Go.ChangeAt Go.RowKit
set_option linter.unusedVariables false
set_option linter.unusedSimpArgs false

/-- The document's client with its answer. -/
def rended (v : CV) (a : AnsV) : CV := { v with state := 2, ans := a, session := if v.ord.kind = 1 ∧ a.e = 0 then a.session else v.session }
set_option maxRecDepth 100000 in
set_option maxHeartbeats 4000000 in
theorem rheard_none {w : World} {B : Nat} {R : Nat → Prop} {b : Nat} {v : CV} (k : RC w B R b v) (a : AnsV) (ht : Few v.tries) (hn : v.state ≠ 1 ∨ a.id ≠ v.id * 1000000 + v.tries) : Calls Try.prog 37 #[.pointer (some ⟨b, 0, none⟩), .agg a.rcells.toArray] w fun e w' => e = .returned (.int .i64 3) ∧ Kp (fun _ => False) w w' := by
  obtain ⟨ai, ae, as_, an, ra, rl, rc, al⟩ := a
  unfold AnsV.rcells
  dsimp only at hn ⊢
  have hka := (Kp.refl (fun _ => False) w).alloc (.cells #[.int .i64 ai, .int .i64 ae, .int .i64 as_, .int .i64 an, .int .i64 al, .slice ra rl.length rc] 56)
  have hX := heap_new w (.cells #[.int .i64 ai, .int .i64 ae, .int .i64 as_, .int .i64 an, .int .i64 al, .slice ra rl.length rc] 56)
  have k1 := k.no hka
  have i1 := k.id1
  have i2 := k.id2
  obtain ⟨t0, t1⟩ := ht
  have HK := Lib.hid hka
  have K1 := Lib.hid k1
  have HX := Lib.hid hX
  clear k hka hX k1
  have w1m : IntKind.i64.wrap (v.id * 1000000) = v.id * 1000000 := IntWalk.i64_in _ (by omega)
  have w1a : IntKind.i64.wrap (v.id * 1000000 + v.tries) = v.id * 1000000 + v.tries := IntWalk.i64_in _ (by omega)
  by_cases hs : v.state = 1
  · have hi : (ai != v.id * 1000000 + v.tries) = true := by
      rcases hn with h | h
      · exact absurd hs h
      · simpa using h
    have HS := Lib.hid hs
    clear hn hs
    go_enter Try.func37, Try.ntmps37
    go_upto_region 1 with fail
    generalize w.alloc (.cells #[.int .i64 ai, .int .i64 ae, .int .i64 as_, .int .i64 an, .int .i64 al, .slice ra rl.length rc] 56) = w1 at HK K1 HX ⊢
    have c8 : w1.cell? ⟨b, 8, none⟩ = some (.int .i64 1) := by rw [← HS.out]; exact cell_of K1.out.blk 8 rfl
    have c0 := cell_of K1.out.blk 0 (v := .int .i64 v.id) rfl
    have c5 := cell_of K1.out.blk 5 (v := .int .i64 v.tries) rfl
    have x0 := cell_of HX.out 0 (v := .int .i64 ai) rfl
    go_quiet (fail)
    all_goals
      go_wp2_with fail
      go_ret
      first | exact ⟨rfl, HK.out.drewN _⟩ | exact ⟨rfl, HK.out.drew⟩ | exact ⟨rfl, HK.out⟩
  · have hb : (v.state != 1) = true := by simpa using hs
    clear hn hs
    go_enter Try.func37, Try.ntmps37
    go_upto_region 1 with fail
    generalize w.alloc (.cells #[.int .i64 ai, .int .i64 ae, .int .i64 as_, .int .i64 an, .int .i64 al, .slice ra rl.length rc] 56) = w1 at HK K1 HX ⊢
    have c8 := cell_of K1.out.blk 8 (v := .int .i64 v.state) rfl
    go_quiet (fail)
    all_goals
      go_wp2_with fail
      go_ret
      first | exact ⟨rfl, HK.out.drewN _⟩ | exact ⟨rfl, HK.out.drew⟩ | exact ⟨rfl, HK.out⟩
set_option maxRecDepth 100000 in
set_option maxHeartbeats 4000000 in
theorem rheard_wait {w : World} {B : Nat} {R : Nat → Prop} {b : Nat} {v : CV} (k : RC w B R b v) (a : AnsV) (ht : Few v.tries) (hs : v.state = 1) (hi : a.id = v.id * 1000000 + v.tries) (he : a.e = 42 ∨ a.e = 37 ∨ a.e = 31 ∨ a.e = 32 ∨ a.e = 7) :
    Calls Try.prog 37 #[.pointer (some ⟨b, 0, none⟩), .agg a.rcells.toArray] w fun e w' => e = .returned (.int .i64 0) ∧ RC w' B R b { v with passed := v.pat } ∧ Kp (fun j => j = b) w w' := by
  obtain ⟨ai, ae, as_, an, ra, rl, rc, al⟩ := a
  unfold AnsV.rcells
  dsimp only at hi he ⊢
  have hka := (Kp.refl (fun _ => False) w).alloc (.cells #[.int .i64 ai, .int .i64 ae, .int .i64 as_, .int .i64 an, .int .i64 al, .slice ra rl.length rc] 56)
  have hX := heap_new w (.cells #[.int .i64 ai, .int .i64 ae, .int .i64 as_, .int .i64 an, .int .i64 al, .slice ra rl.length rc] 56)
  have k1 := k.no hka
  have i1 := k.id1
  have i2 := k.id2
  obtain ⟨t0, t1⟩ := ht
  have HK := Lib.hid hka
  have K1 := Lib.hid k1
  have HX := Lib.hid hX
  clear k hka hX k1
  have w1m : IntKind.i64.wrap (v.id * 1000000) = v.id * 1000000 := IntWalk.i64_in _ (by omega)
  have w1a : IntKind.i64.wrap (v.id * 1000000 + v.tries) = v.id * 1000000 + v.tries := IntWalk.i64_in _ (by omega)
  subst hi
  have HS := Lib.hid hs
  clear hs
  go_enter Try.func37, Try.ntmps37
  go_upto_region 1 with fail
  generalize w.alloc (.cells #[.int .i64 (v.id * 1000000 + v.tries), .int .i64 ae, .int .i64 as_, .int .i64 an, .int .i64 al, .slice ra rl.length rc] 56) = w1 at HK K1 HX ⊢
  have c8 : w1.cell? ⟨b, 8, none⟩ = some (.int .i64 1) := by rw [← HS.out]; exact cell_of K1.out.blk 8 rfl
  have c0 := cell_of K1.out.blk 0 (v := .int .i64 v.id) rfl
  have c5 := cell_of K1.out.blk 5 (v := .int .i64 v.tries) rfl
  have c1 := cell_of K1.out.blk 1 (v := .int .i64 v.pat) rfl
  have c6 := cell_of K1.out.blk 6 (v := .int .i64 v.passed) rfl
  have f6 := free_of K1.out.blk 6
  have x0 := cell_of HX.out 0 (v := .int .i64 (v.id * 1000000 + v.tries)) rfl
  have x1 := cell_of HX.out 1 (v := .int .i64 ae) rfl
  go_quiet (fail)
  rcases he with he | he | he | he | he
  all_goals
    subst he
    go_wp2_with fail
    go_ret
    refine ⟨rfl, ?_⟩
    have hk : ∀ y : World, Kp (fun _ => False) w1 y → RC (y.setCell ⟨b, 6, none⟩ (.int .i64 v.pat)) B R b { v with passed := v.pat } ∧ Kp (fun j => j = b) w (y.setCell ⟨b, 6, none⟩ (.int .i64 v.pat)) := fun y hy => by
      have k2 := K1.out.no hy
      have hk : Kp (fun j => j = b) y (y.setCell ⟨b, 6, none⟩ (.int .i64 v.pat)) := (Kp.refl (fun j => j = b) _).setCell (p := ⟨b, 6, none⟩) (.inl rfl) _
      exact ⟨k2.set hk { v with passed := v.pat } (heap_set k2.blk 6 (.int .i64 v.pat)) ⟨rfl, rfl, rfl, rfl, rfl, rfl, rfl⟩ k2.at_ ⟨k2.ord, k2.ordR, k2.ordL⟩ ⟨k2.ans, k2.rec_⟩, ((HK.out.trans hy).mono (fun _ _ h => h.elim)).trans hk⟩
    first | exact hk _ ((Kp.refl _ _).drewN _) | exact hk _ (Kp.refl _ _).drew | exact hk _ (Kp.refl _ _)
set_option maxRecDepth 100000 in
set_option maxHeartbeats 4000000 in
theorem rheard_ends {w : World} {B : Nat} {R : Nat → Prop} {b : Nat} {v : CV} (k : RC w B R b v) (a : AnsV) (ht : Few v.tries) (hs : v.state = 1) (hi : a.id = v.id * 1000000 + v.tries) (he : Ends a.e) (hr : Low w B a.ra (a.rl.map RecV.val)) (hrr : ∀ r ∈ a.rl, Low w B r.a (bytes r.d)) :
    Calls Try.prog 37 #[.pointer (some ⟨b, 0, none⟩), .agg a.rcells.toArray] w fun e w' => e = .returned (.int .i64 0) ∧ RC w' B R b (rended v a) ∧ Kp (fun j => j = b) w w' := by
  obtain ⟨ai, ae, as_, an, ra, rl, rc, al⟩ := a
  unfold AnsV.rcells
  dsimp only at hi he hr hrr ⊢
  have hka := (Kp.refl (fun _ => False) w).alloc (.cells #[.int .i64 ai, .int .i64 ae, .int .i64 as_, .int .i64 an, .int .i64 al, .slice ra rl.length rc] 56)
  have hX := heap_new w (.cells #[.int .i64 ai, .int .i64 ae, .int .i64 as_, .int .i64 an, .int .i64 al, .slice ra rl.length rc] 56)
  have k1 := k.no hka
  have i1 := k.id1
  have i2 := k.id2
  have hbX : ¬ b = w.heap.size := fun e => by have := lt_of_block k.blk; omega
  have hXb : ¬ w.heap.size = b := fun e => hbX e.symm
  obtain ⟨t0, t1⟩ := ht
  have HK := Lib.hid hka
  have K1 := Lib.hid k1
  have HX := Lib.hid hX
  have HR := Lib.hid (hr.kp hka (fun _ h => h.elim))
  have HRR := Lib.hid (fun r h => (hrr r h).kp hka (fun _ h => h.elim))
  clear k hka hX k1 hr hrr
  have w1m : IntKind.i64.wrap (v.id * 1000000) = v.id * 1000000 := IntWalk.i64_in _ (by omega)
  have w1a : IntKind.i64.wrap (v.id * 1000000 + v.tries) = v.id * 1000000 + v.tries := IntWalk.i64_in _ (by omega)
  subst hi
  have HS := Lib.hid hs
  obtain ⟨e1, e2, e3, e4, e5, e6⟩ := he
  have b1 : (ae == 30) = false := by simpa using e1
  have b2 : (ae == 42) = false := by simpa using e2
  have b3 : (ae == 37) = false := by simpa using e3
  have b4 : (ae == 31) = false := by simpa using e4
  have b5 : (ae == 32) = false := by simpa using e5
  have b6 : (ae == 7) = false := by simpa using e6
  clear hs e1 e2 e3 e4 e5 e6
  go_enter Try.func37, Try.ntmps37
  go_upto_region 1 with fail
  generalize w.alloc (.cells #[.int .i64 (v.id * 1000000 + v.tries), .int .i64 ae, .int .i64 as_, .int .i64 an, .int .i64 al, .slice ra rl.length rc] 56) = w1 at HK K1 HX HR HRR ⊢
  have c8 : w1.cell? ⟨b, 8, none⟩ = some (.int .i64 1) := by rw [← HS.out]; exact cell_of K1.out.blk 8 rfl
  have c0 := cell_of K1.out.blk 0 (v := .int .i64 v.id) rfl
  have c5 := cell_of K1.out.blk 5 (v := .int .i64 v.tries) rfl
  have x0 := cell_of HX.out 0 (v := .int .i64 (v.id * 1000000 + v.tries)) rfl
  have x1 := cell_of HX.out 1 (v := .int .i64 ae) rfl
  have f8 := free_of K1.out.blk 8
  go_quiet (fail)
  go_upto_region 5 with fail
  have hy : Kp (fun _ => False) w1 (w1.drewN nq) := (Kp.refl _ _).drewN _
  have hk0 : Kp (fun j => j = b) (w1.drewN nq) ((w1.drewN nq).setCell ⟨b, 8, none⟩ (.int .i64 2)) := (Kp.refl (fun j => j = b) _).setCell (p := ⟨b, 8, none⟩) (.inl rfl) _
  have k0 : RC ((w1.drewN nq).setCell ⟨b, 8, none⟩ (.int .i64 2)) B R b { v with state := 2 } := by
    have k2 := K1.out.no hy
    exact k2.set hk0 { v with state := 2 } (heap_set k2.blk 8 (.int .i64 2)) ⟨rfl, rfl, rfl, rfl, rfl, rfl, rfl⟩ k2.at_ ⟨k2.ord, k2.ordR, k2.ordL⟩ ⟨k2.ans, k2.rec_⟩
  have hBb : ∀ j, j = b → B ≤ j := fun j e => e ▸ k0.ge
  have HK0 := Lib.hid (show Kp (fun j => j = b) w _ from ((HK.out.trans hy).mono (fun _ _ h => h.elim)).trans hk0)
  have hx0 := hk0.heap (hy.heap HX.out (fun h => h)) hXb
  have HR0 := Lib.hid ((HR.out.kp hy (fun _ h => h.elim)).kp hk0 hBb)
  have HRR0 := Lib.hid (fun r h => ((HRR.out r h).kp hy (fun _ h => h.elim)).kp hk0 hBb)
  clear hk0 hy c8 c0 c5 x0 x1 f8 K1 HK HX HR HRR
  generalize (w1.drewN nq).setCell ⟨b, 8, none⟩ (.int .i64 2) = y0 at k0 HK0 hx0 HR0 HRR0 ⊢
  have x0 := cell_of hx0 0 (v := .int .i64 (v.id * 1000000 + v.tries)) rfl
  have x1 := cell_of hx0 1 (v := .int .i64 ae) rfl
  have x2 := cell_of hx0 2 (v := .int .i64 as_) rfl
  have x3 := cell_of hx0 3 (v := .int .i64 an) rfl
  have x4 := cell_of hx0 4 (v := .int .i64 al) rfl
  have x5 := cell_of hx0 5 (v := .slice ra rl.length rc) rfl
  have c13 := cell_of k0.blk 13 (v := .int .i64 v.ans.id) rfl
  have f13 := free_of k0.blk 13
  have c14 := cell_of k0.blk 14 (v := .int .i64 v.ans.e) rfl
  have f14 := free_of k0.blk 14
  have c15 := cell_of k0.blk 15 (v := .int .i64 v.ans.session) rfl
  have f15 := free_of k0.blk 15
  have c16 := cell_of k0.blk 16 (v := .int .i64 v.ans.number) rfl
  have f16 := free_of k0.blk 16
  have c17 := cell_of k0.blk 17 (v := .int .i64 v.ans.leader) rfl
  have f17 := free_of k0.blk 17
  have c18 := cell_of k0.blk 18 (v := .slice v.ans.ra v.ans.rl.length v.ans.rc) rfl
  have f18 := free_of k0.blk 18
  have hk1 : Kp (fun j => j = b) y0 ((((((y0.setCell ⟨b, 13, none⟩ (.int .i64 (v.id * 1000000 + v.tries))).setCell ⟨b, 14, none⟩ (.int .i64 ae)).setCell ⟨b, 15, none⟩ (.int .i64 as_)).setCell ⟨b, 16, none⟩ (.int .i64 an)).setCell ⟨b, 17, none⟩ (.int .i64 al)).setCell ⟨b, 18, none⟩ (.slice ra rl.length rc)) := (((((((Kp.refl (fun j => j = b) y0).setCell (p := ⟨b, 13, none⟩) (.inl rfl) (.int .i64 (v.id * 1000000 + v.tries))).setCell (p := ⟨b, 14, none⟩) (.inl rfl) (.int .i64 ae)).setCell (p := ⟨b, 15, none⟩) (.inl rfl) (.int .i64 as_)).setCell (p := ⟨b, 16, none⟩) (.inl rfl) (.int .i64 an)).setCell (p := ⟨b, 17, none⟩) (.inl rfl) (.int .i64 al)).setCell (p := ⟨b, 18, none⟩) (.inl rfl) (.slice ra rl.length rc))
  have hb1 := (heap_set (heap_set (heap_set (heap_set (heap_set (heap_set k0.blk 13 (.int .i64 (v.id * 1000000 + v.tries))) 14 (.int .i64 ae)) 15 (.int .i64 as_)) 16 (.int .i64 an)) 17 (.int .i64 al)) 18 (.slice ra rl.length rc))
  have K0 := Lib.hid k0
  have HX0 := Lib.hid hx0
  have HK1 := Lib.hid hk1
  have HB1 := Lib.hid hb1
  clear k0 hx0 hk1 hb1 hBb
  go_upto_region 6 with fail
  clear x0 x1 x2 x3 x4 x5 c13 c14 c15 c16 c17 c18 f13 f14 f15 f16 f17 f18
  generalize ((((((y0.setCell ⟨b, 13, none⟩ (.int .i64 (v.id * 1000000 + v.tries))).setCell ⟨b, 14, none⟩ (.int .i64 ae)).setCell ⟨b, 15, none⟩ (.int .i64 as_)).setCell ⟨b, 16, none⟩ (.int .i64 an)).setCell ⟨b, 17, none⟩ (.int .i64 al)).setCell ⟨b, 18, none⟩ (.slice ra rl.length rc)) = y1 at HK1 HB1 ⊢
  have hBb : ∀ j, j = b → B ≤ j := fun j e => e ▸ K0.out.ge
  have k1 : RC y1 B R b { v with state := 2, ans := ⟨v.id * 1000000 + v.tries, ae, as_, an, ra, rl, rc, al⟩ } :=
    K0.out.set HK1.out _ HB1.out ⟨rfl, rfl, rfl, rfl, rfl, rfl, rfl⟩ K0.out.at_ ⟨K0.out.ord, K0.out.ordR, K0.out.ordL⟩ ⟨HR0.out, HRR0.out⟩
  have hx1 := HK1.out.heap HX0.out hXb
  have HKA := Lib.hid (HK0.out.trans HK1.out)
  have KA := Lib.hid k1
  have x1 := cell_of hx1 1 (v := .int .i64 ae) rfl
  have x2 := cell_of hx1 2 (v := .int .i64 as_) rfl
  have c3 := cell_of k1.blk 3 (v := .int .i64 v.session) rfl
  have f3 := free_of k1.blk 3
  have c9 := cell_of k1.blk 9 (v := .int .i64 v.ord.kind) rfl
  clear k1 hx1 HB1 HK1 K0 HX0 HK0 HR0 HRR0 hBb
  have rs : rended v ⟨v.id * 1000000 + v.tries, ae, as_, an, ra, rl, rc, al⟩ = { v with state := 2, ans := ⟨v.id * 1000000 + v.tries, ae, as_, an, ra, rl, rc, al⟩, session := if v.ord.kind = 1 ∧ ae = 0 then as_ else v.session } := rfl
  have RS := Lib.hid rs
  clear rs
  by_cases h1 : v.ord.kind = 1 ∧ ae = 0
  · have p1 : (v.ord.kind == 1) = true := by simp [h1.1]
    have p2 : (ae == 0) = true := by simp [h1.2]
    have H1 := Lib.hid h1
    clear h1
    go_wp2_with fail
    go_ret
    have hk2 : Kp (fun j => j = b) y1 (y1.setCell ⟨b, 3, none⟩ (.int .i64 as_)) := (Kp.refl (fun j => j = b) _).setCell (p := ⟨b, 3, none⟩) (.inl rfl) _
    refine ⟨rfl, ?_, HKA.out.trans hk2⟩
    rw [RS.out, if_pos H1.out]
    exact KA.out.set hk2 _ (heap_set KA.out.blk 3 (.int .i64 as_)) ⟨rfl, rfl, rfl, rfl, rfl, rfl, rfl⟩ KA.out.at_ ⟨KA.out.ord, KA.out.ordR, KA.out.ordL⟩ ⟨KA.out.ans, KA.out.rec_⟩
  · have H1 := Lib.hid h1
    have hor : (v.ord.kind == 1) = false ∨ ((v.ord.kind == 1) = true ∧ (ae == 0) = false) := by
      by_cases e : v.ord.kind = 1
      · exact .inr ⟨by simp [e], by simpa using fun h => h1 ⟨e, h⟩⟩
      · exact .inl (by simpa using e)
    clear h1
    rcases hor with p1 | ⟨p1, p2⟩
    all_goals
      go_wp2_with fail
      go_ret
      refine ⟨rfl, ?_, HKA.out⟩
      rw [RS.out, if_neg H1.out]
      exact KA.out
end Go.Proofs.Ytjhefbkigmamfaa
