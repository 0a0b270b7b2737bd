/-
  The document's Heard, of a leader: walked once. Where the counts are few.
-/
import Derived.Test.YtjhefbkigmamfaaRh
import Derived.Deep.CutBlock
namespace Go.Proofs.Ytjhefbkigmamfaa
open Go.ChangeShapes Go.WideShapes Go.ChangeAt Go.RowKit
set_option linter.unusedVariables false
set_option linter.unusedSimpArgs false

/-- The place that was found among the first k. -/
def Found (zs : List Int) (x : Int) (k : Nat) (d : Int) : Prop := (d = -1 ∧ ∀ j, j < k → zs.getD j 0 ≠ x) ∨ ∃ i : Nat, i < k ∧ d = i ∧ zs.getD i 0 = x
set_option maxRecDepth 100000 in
set_option maxHeartbeats 4000000 in
theorem rheard_leader {w : World} {B : Nat} {R : Nat → Prop} {b : Nat} {v : CV} (k : RC w B R b v) (a : AnsV) (ht : Few v.tries) (ht1 : Few (v.tries + 1)) (hs : v.state = 1) (hi : a.id = v.id * 1000000 + v.tries) (he : a.e = 30) (hc : v.cl.length ≤ 1500000000000) (hB : B ≤ w.heap.size) :
    Calls Try.prog 37 #[.pointer (some ⟨b, 0, none⟩), .agg a.rcells.toArray] w fun e w' => e = .returned (.int .i64 0) ∧ ∃ i da dc R' ca' cc', LeadAt v a.leader i ∧ RC w' B R' b { more { v with at_ := i } with ca := ca', cl := v.cl ++ [callOf (more { v with at_ := i }) da dc], cc := cc' } ∧ Kp (Foot b v.ca) w w' ∧ (∀ j, R' j → R j ∨ w.heap.size ≤ j) ∧ Moved w v.ca ca' := by
  obtain ⟨ai, ae, as_, an, ra, rl, rc, al⟩ := a
  unfold AnsV.rcells
  dsimp only at hi he ⊢
  have hka := (Kp.refl (fun _ => False) w).alloc (.cells #[.int .i64 ai, .int .i64 ae, .int .i64 as_, .int .i64 an, .int .i64 al, .slice ra rl.length rc] 56)
  have hX := heap_new w (.cells #[.int .i64 ai, .int .i64 ae, .int .i64 as_, .int .i64 an, .int .i64 al, .slice ra rl.length rc] 56)
  have k1 := k.no hka
  have i1 := k.id1
  have i2 := k.id2
  have n1 := k.one
  have n7 := k.seven
  have hbX : ¬ b = w.heap.size := fun e => by have := lt_of_block k.blk; omega
  have hXb : ¬ w.heap.size = b := fun e => hbX e.symm
  obtain ⟨t0, t1⟩ := ht
  have HT1 := Lib.hid ht1
  have HK := Lib.hid hka
  have K1 := Lib.hid k1
  have HX := Lib.hid hX
  clear k hka hX k1 ht1
  have w1m : IntKind.i64.wrap (v.id * 1000000) = v.id * 1000000 := IntWalk.i64_in _ (by omega)
  have w1a : IntKind.i64.wrap (v.id * 1000000 + v.tries) = v.id * 1000000 + v.tries := IntWalk.i64_in _ (by omega)
  subst hi
  subst he
  have HS := Lib.hid hs
  clear hs
  go_enter Try.func37, Try.ntmps37
  go_upto_region 1 with fail
  generalize w.alloc (.cells #[.int .i64 (v.id * 1000000 + v.tries), .int .i64 30, .int .i64 as_, .int .i64 an, .int .i64 al, .slice ra rl.length rc] 56) = w1 at HK K1 HX ⊢
  have c8 : w1.cell? ⟨b, 8, none⟩ = some (.int .i64 1) := by rw [← HS.out]; exact cell_of K1.out.blk 8 rfl
  have c0 := cell_of K1.out.blk 0 (v := .int .i64 v.id) rfl
  have c5 := cell_of K1.out.blk 5 (v := .int .i64 v.tries) rfl
  have x0 := cell_of HX.out 0 (v := .int .i64 (v.id * 1000000 + v.tries)) rfl
  have x1 := cell_of HX.out 1 (v := .int .i64 30) rfl
  go_quiet (fail)
  go_wp2_with fail
  have hy : Kp (fun _ => False) w1 (w1.drewN nq) := (Kp.refl _ _).drewN _
  have K2 := Lib.hid (K1.out.no hy)
  have HK2 := Lib.hid (HK.out.trans hy)
  have HX2 := Lib.hid (hy.heap HX.out (fun h => h))
  clear c8 c0 c5 x0 x1 K1 HK HX hy w1m w1a
  generalize w1.drewN nq = w2 at K2 HK2 HX2 ⊢
  obtain ⟨N, hN⟩ : ∃ N, N = v.sl.length := ⟨_, rfl⟩
  have HN := Lib.hid hN
  rw [← hN] at n1 n7
  clear hN
  go_loopw [5, 6] (fun d q wr => ∃ (i : Nat) (x : Int), q = .int .i64 i ∧ d = .int .i64 x ∧ i ≤ N ∧ Found v.sl al i x ∧ Kp (fun _ => False) w2 wr) (fun _ q _ => N - (intOf q).toNat)
  case atStart => exact ⟨0, -1, rfl, rfl, Nat.zero_le _, .inl ⟨rfl, fun j h => absurd h (Nat.not_lt_zero j)⟩, Kp.refl _ _⟩
  case round =>
    obtain ⟨i, x, rfl, rfl, hi, hf, hk⟩ := hrel
    have HF := Lib.hid hf
    have K3 := Lib.hid (K2.out.no hk)
    have HK3 := Lib.hid (HK2.out.trans hk)
    have HX3 := Lib.hid (hk.heap HX2.out (fun h => h))
    have HKK := Lib.hid hk
    clear hf hk
    have c7 : wr.cell? ⟨b, 7, none⟩ = some (.slice v.sa N v.sc) := by rw [HN.out]; exact cell_of K3.out.blk 7 rfl
    by_cases hlt : i < N
    · obtain ⟨g, og, hsa, d2⟩ := Row.int (zs := v.sl) K3.out.srv (i := i) (by rw [← HN.out]; exact hlt)
      rw [hsa] at c7
      have hiI : (i : Int) < (N : Int) := by omega
      have hi0 : (0 : Int) ≤ (i : Int) := by omega
      have x4 := cell_of HX3.out 4 (v := .int .i64 al) rfl
      obtain ⟨z, hz⟩ : ∃ z, z = v.sl.getD i 0 := ⟨_, rfl⟩
      rw [← hz] at d2
      have HZ := Lib.hid hz
      clear hsa hz
      by_cases hza : z = al
      · have hzb : (z == al) = true := by simpa using hza
        have HZA := Lib.hid hza
        clear hza
        go_wp2_with fail
        go_quiet (fail)
        go_wp2_with fail
        go_roundw
        case rel => exact ⟨i + 1, i, by go_num, rfl, by omega, .inr ⟨i, by omega, rfl, by rw [← HZ.out, HZA.out]⟩, by first | exact HKK.out.drewN _ | exact HKK.out.drew | exact HKK.out⟩
        case measure => simp [intOf]; omega
      · have hzb : (z == al) = false := by simpa using hza
        have HZA := Lib.hid hza
        clear hza
        go_wp2_with fail
        go_quiet (fail)
        go_wp2_with fail
        go_roundw
        case rel => exact ⟨i + 1, x, by go_num, rfl, by omega, (by
          rcases HF.out with ⟨h1, h2⟩ | ⟨q, h1, h2, h3⟩
          · refine .inl ⟨h1, fun j hj => ?_⟩
            by_cases e : j = i
            · rw [e, ← HZ.out]; exact HZA.out
            · exact h2 j (by omega)
          · exact .inr ⟨q, by omega, h2, h3⟩), by first | exact HKK.out.drewN _ | exact HKK.out.drew | exact HKK.out⟩
        case measure => simp [intOf]; omega
    · obtain rfl : i = N := by omega
      have hcl : v.cl.length ≤ 1500000000000 := hc
      have HC := Lib.hid hcl
      clear hcl hc
      rcases HF.out with ⟨rfl, hno⟩ | ⟨q, hq, rfl, hqz⟩
      · have HLD := Lib.hid (show LeadAt v al (nextAt v) from .inl ⟨fun hm => by
          obtain ⟨j, hj, e⟩ := List.mem_iff_getElem.1 hm
          exact hno j (by rw [HN.out]; exact hj) (by simp [List.getD, hj, e]), rfl⟩)
        clear hno HF
        go_wp2_with fail
        refine (rnext_any K3.out).mono ?_
        rintro e w4 ⟨rfl, k4, hk4⟩
        have K4 := Lib.hid k4
        have HK4 := Lib.hid ((HK3.out.mono (S' := fun j => j = b) (fun _ _ h => h.elim)).trans hk4)
        have hs4 := HK4.out.size
        clear k4 hk4
        go_wp2_with fail
        refine (rask_any K4.out HT1.out t0 HC.out (by omega)).mono ?_
        rintro e w5 ⟨rfl, da, dc, R', ca', cc', k5, hk5, hr5, hm5⟩
        have K5 := Lib.hid k5
        have HK5 := Lib.hid (show Kp (Foot b v.ca) w w5 from (HK4.out.mono (S' := Foot b v.ca) (fun _ _ h => .inl h)).trans hk5)
        have HR5 := Lib.hid hr5
        have HM5 := Lib.hid hm5
        clear k5 hk5 hr5 hm5
        go_wp2_with fail
        go_ret
        first | exact ⟨rfl, _, da, dc, R', ca', cc', HLD.out, K5.out, HK5.out, fun j h => (HR5.out j h).imp_right (fun e => by omega), HM5.out.imp_right (fun h g hg => by have := h g hg; omega)⟩ | exact ⟨rfl, _, da, dc, R', ca', HLD.out, ⟨cc', K5.out⟩, HK5.out, fun j h => (HR5.out j h).imp_right (fun e => by omega), HM5.out.imp_right (fun h g hg => by have := h g hg; omega)⟩
      · have HLD := Lib.hid (show LeadAt v al q from .inr ⟨by rw [← HN.out]; exact hq, hqz⟩)
        have hq0 : (0 : Int) ≤ (q : Int) := by omega
        have c2 := cell_of K3.out.blk 2 (v := .int .i64 (v.at_ : Nat)) rfl
        have f2 := free_of K3.out.blk 2
        have hk4 : Kp (fun j => j = b) wr (wr.setCell ⟨b, 2, none⟩ (.int .i64 (q : Nat))) := (Kp.refl (fun j => j = b) _).setCell (p := ⟨b, 2, none⟩) (.inl rfl) _
        have k4 : RC (wr.setCell ⟨b, 2, none⟩ (.int .i64 (q : Nat))) B R b { v with at_ := q } := K3.out.set hk4 _ (heap_set K3.out.blk 2 (.int .i64 (q : Nat))) ⟨rfl, rfl, rfl, rfl, rfl, rfl, rfl⟩ (by rw [← HN.out]; exact hq) ⟨K3.out.ord, K3.out.ordR, K3.out.ordL⟩ ⟨K3.out.ans, K3.out.rec_⟩
        have K4 := Lib.hid k4
        have HK4 := Lib.hid ((HK3.out.mono (S' := fun j => j = b) (fun _ _ h => h.elim)).trans hk4)
        clear k4 hk4 hqz HF
        go_wp2_with fail
        clear c2 f2
        generalize wr.setCell ⟨b, 2, none⟩ (.int .i64 (q : Nat)) = w4 at K4 HK4 ⊢
        have hs4 := HK4.out.size
        refine (rask_any K4.out HT1.out t0 HC.out (by omega)).mono ?_
        rintro e w5 ⟨rfl, da, dc, R', ca', cc', k5, hk5, hr5, hm5⟩
        have K5 := Lib.hid k5
        have HK5 := Lib.hid (show Kp (Foot b v.ca) w w5 from (HK4.out.mono (S' := Foot b v.ca) (fun _ _ h => .inl h)).trans hk5)
        have HR5 := Lib.hid hr5
        have HM5 := Lib.hid hm5
        clear k5 hk5 hr5 hm5
        go_wp2_with fail
        go_ret
        first | exact ⟨rfl, _, da, dc, R', ca', cc', HLD.out, K5.out, HK5.out, fun j h => (HR5.out j h).imp_right (fun e => by omega), HM5.out.imp_right (fun h g hg => by have := h g hg; omega)⟩ | exact ⟨rfl, _, da, dc, R', ca', HLD.out, ⟨cc', K5.out⟩, HK5.out, fun j h => (HR5.out j h).imp_right (fun e => by omega), HM5.out.imp_right (fun h g hg => by have := h g hg; omega)⟩
end Go.Proofs.Ytjhefbkigmamfaa
