/-
  The document's Tick, Calls and Done, walked once. Where the counts are few.
-/
import Derived.Test.YtjhefbkigmamfaaRk
namespace Go.Proofs.Ytjhefbkigmamfaa
open Go.ChangeShapes Go.WideShapes Go.ChangeAt Go.RowKit
set_option linter.unusedVariables false
set_option linter.unusedSimpArgs false

theorem rcalls_any {w : World} {B : Nat} {R : Nat → Prop} {b : Nat} {v : CV} (k : RC w B R b v) : Calls Try.prog 39 #[.pointer (some ⟨b, 0, none⟩)] w fun r w' => r = .returned (.slice v.ca v.cl.length v.cc) ∧ RC w' B R b { v with ca := none, cl := [], cc := 0 } ∧ Kp (fun j => j = b) w w' := by
  have c19 := cell_of k.blk 19 (v := .slice v.ca v.cl.length v.cc) rfl
  have f19 := free_of k.blk 19
  have HK := Lib.hid k
  clear k
  go_enter Try.func39, Try.ntmps39
  go_wp2_with fail
  go_ret
  have hk : Kp (fun j => j = b) w (w.setCell ⟨b, 19, none⟩ (.slice none 0 0)) := (Kp.refl (fun j => j = b) _).setCell (p := ⟨b, 19, none⟩) (.inl rfl) _
  have k := HK.out
  have hR : ∀ j, R j → ¬ j = b := fun j hj e => k.dis b (.inl rfl) (e ▸ hj)
  have hBb : ∀ j, j = b → B ≤ j := fun j e => e ▸ k.ge
  exact ⟨rfl, ⟨heap_set k.blk 19 (.slice none 0 0), k.ge, k.srv.kp hk (fun g hg => hR g (k.srvR g hg)), k.srvR, k.one, k.seven, k.at_, k.id1, k.id2, k.pat1, k.pat2, k.ord.kp hk (fun g hg => hR g (k.ordR g hg)), k.ordR, k.ordL, k.ans.kp hk hBb, fun r hr => (k.rec_ r hr).kp hk hBb, Owns.nil _ _ _ _, (fun q hq => by cases hq), (fun j hj => k.dis j (hj.elim .inl (fun e => by cases e))), fun j hj => ⟨(k.lt j hj).1, Nat.lt_of_lt_of_le (k.lt j hj).2 hk.size⟩⟩, hk⟩

theorem rtick_idle {w : World} {B : Nat} {R : Nat → Prop} {b : Nat} {v : CV} (k : RC w B R b v) (hs : v.state ≠ 1) : Calls Try.prog 38 #[.pointer (some ⟨b, 0, none⟩)] w fun e w' => e = .returned (.tuple #[]) ∧ w' = w := by
  have c8 := cell_of k.blk 8 (v := .int .i64 v.state) rfl
  have hb : (v.state != 1) = true := by simpa using hs
  clear k hs
  go_enter Try.func38, Try.ntmps38
  go_wp2_with fail
  exact bodyPost_ret (v := .tuple #[]) (by simp [results, Try.results38, go_sem]) rfl ⟨rfl, rfl⟩
set_option maxHeartbeats 4000000 in
theorem rtick_wait {w : World} {B : Nat} {R : Nat → Prop} {b : Nat} {v : CV} (k : RC w B R b v) (hs : v.state = 1) (hp0 : 0 ≤ v.passed) (hp : v.passed + 1 < v.pat) : Calls Try.prog 38 #[.pointer (some ⟨b, 0, none⟩)] w fun e w' => e = .returned (.tuple #[]) ∧ RC w' B R b { v with passed := v.passed + 1 } ∧ Kp (fun j => j = b) w w' := by
  have hq := k.pat2
  have hk : Kp (fun j => j = b) w (w.setCell ⟨b, 6, none⟩ (.int .i64 (v.passed + 1))) := (Kp.refl (fun j => j = b) _).setCell (p := ⟨b, 6, none⟩) (.inl rfl) _
  have k1 : RC (w.setCell ⟨b, 6, none⟩ (.int .i64 (v.passed + 1))) B R b { v with passed := v.passed + 1 } :=
    k.set hk { v with passed := v.passed + 1 } (heap_set k.blk 6 (.int .i64 (v.passed + 1))) ⟨rfl, rfl, rfl, rfl, rfl, rfl, rfl⟩ k.at_ ⟨k.ord, k.ordR, k.ordL⟩ ⟨k.ans, k.rec_⟩
  have c8 : w.cell? ⟨b, 8, none⟩ = some (.int .i64 1) := by rw [← hs]; exact cell_of k.blk 8 rfl
  have c6 := cell_of k.blk 6 (v := .int .i64 v.passed) rfl
  have f6 := free_of k.blk 6
  have w1 : IntKind.i64.wrap (v.passed + 1) = v.passed + 1 := IntWalk.i64_in _ (by omega)
  have K1 := Lib.hid k1
  have HK := Lib.hid hk
  clear k k1 hk hs
  go_enter Try.func38, Try.ntmps38
  go_upto_region 2 with fail
  generalize w.setCell ⟨b, 6, none⟩ (.int .i64 (v.passed + 1)) = w1 at K1 HK ⊢
  have e6 := cell_of K1.out.blk 6 (v := .int .i64 (v.passed + 1)) rfl
  have e1 := cell_of K1.out.blk 1 (v := .int .i64 v.pat) rfl
  have hn : ¬ v.pat ≤ v.passed + 1 := by omega
  clear c8 c6 f6
  go_quiet (fail)
  all_goals
    go_wp2_with fail
    go_end0
    first | exact ⟨rfl, K1.out.no ((Kp.refl _ _).drewN _), HK.out.drewN _⟩ | exact ⟨rfl, K1.out.no ((Kp.refl _ _).drew), HK.out.drew⟩ | exact ⟨rfl, K1.out, HK.out⟩
set_option maxHeartbeats 4000000 in
theorem rtick_ask {w : World} {B : Nat} {R : Nat → Prop} {b : Nat} {v : CV} (k : RC w B R b v) (hs : v.state = 1) (hp0 : 0 ≤ v.passed) (hp1 : v.passed ≤ v.pat) (hp : v.pat ≤ v.passed + 1) (ht : Few (v.tries + 1)) (ht0 : 0 ≤ v.tries) (hc : v.cl.length ≤ 1500000000000) (hB : B ≤ w.heap.size) :
    Calls Try.prog 38 #[.pointer (some ⟨b, 0, none⟩)] w fun e w' => e = .returned (.tuple #[]) ∧ ∃ da dc R' ca' cc', RC w' B R' b { more { v with at_ := nextAt v } with ca := ca', cl := v.cl ++ [callOf (more { v with at_ := nextAt v }) da dc], cc := cc' } ∧ Kp (Foot b v.ca) w w' ∧ (∀ j, R' j → R j ∨ w.heap.size ≤ j) ∧ Moved w v.ca ca' := by
  have hq := k.pat2
  have hk : Kp (fun j => j = b) w (w.setCell ⟨b, 6, none⟩ (.int .i64 (v.passed + 1))) := (Kp.refl (fun j => j = b) _).setCell (p := ⟨b, 6, none⟩) (.inl rfl) _
  have k1 : RC (w.setCell ⟨b, 6, none⟩ (.int .i64 (v.passed + 1))) B R b { v with passed := v.passed + 1 } :=
    k.set hk { v with passed := v.passed + 1 } (heap_set k.blk 6 (.int .i64 (v.passed + 1))) ⟨rfl, rfl, rfl, rfl, rfl, rfl, rfl⟩ k.at_ ⟨k.ord, k.ordR, k.ordL⟩ ⟨k.ans, k.rec_⟩
  have c8 : w.cell? ⟨b, 8, none⟩ = some (.int .i64 1) := by rw [← hs]; exact cell_of k.blk 8 rfl
  have c6 := cell_of k.blk 6 (v := .int .i64 v.passed) rfl
  have f6 := free_of k.blk 6
  have w1 : IntKind.i64.wrap (v.passed + 1) = v.passed + 1 := IntWalk.i64_in _ (by omega)
  have K1 := Lib.hid k1
  have HK := Lib.hid hk
  have HT := Lib.hid ht
  clear k k1 hk hs ht
  go_enter Try.func38, Try.ntmps38
  go_upto_region 2 with fail
  generalize w.setCell ⟨b, 6, none⟩ (.int .i64 (v.passed + 1)) = w1 at K1 HK ⊢
  have e6 := cell_of K1.out.blk 6 (v := .int .i64 (v.passed + 1)) rfl
  have e1 := cell_of K1.out.blk 1 (v := .int .i64 v.pat) rfl
  clear c8 c6 f6
  go_quiet (fail)
  all_goals
    go_wp2_with fail
    refine (rnext_any (K1.out.no (by first | exact (Kp.refl _ _).drewN _ | exact (Kp.refl _ _).drew | exact Kp.refl _ _))).mono ?_
    rintro e w2 ⟨rfl, k2, hk2⟩
    have K2 := Lib.hid k2
    have HK2 := Lib.hid (show Kp (fun j => j = b) w w2 from HK.out.trans ((by first | exact (Kp.refl (fun j => j = b) _).drewN _ | exact (Kp.refl (fun j => j = b) _).drew | exact Kp.refl _ _ : Kp (fun j => j = b) w1 _).trans hk2))
    clear k2 hk2
    go_wp2_with fail
    have hs2 := HK2.out.size
    refine (rask_any K2.out HT.out ht0 hc (by omega)).mono ?_
    rintro e w3 ⟨rfl, da, dc, R', ca', cc', k3, hk3, hr3, hm3⟩
    have K3 := Lib.hid k3
    have HK3 := Lib.hid (show Kp (Foot b v.ca) w w3 from (HK2.out.mono (S' := Foot b v.ca) (fun _ _ h => .inl h)).trans hk3)
    have HR3 := Lib.hid hr3
    have HM3 := Lib.hid hm3
    clear k3 hk3 hr3 hm3
    go_wp2_with fail
    go_end0
    first | exact ⟨rfl, da, dc, R', ca', cc', K3.out, HK3.out, fun j h => (HR3.out j h).imp_right (fun e => by omega), HM3.out.imp_right (fun h g hg => by have := h g hg; omega)⟩ | exact ⟨rfl, da, dc, R', ca', ⟨cc', K3.out⟩, HK3.out, fun j h => (HR3.out j h).imp_right (fun e => by omega), HM3.out.imp_right (fun h g hg => by have := h g hg; omega)⟩
end Go.Proofs.Ytjhefbkigmamfaa
