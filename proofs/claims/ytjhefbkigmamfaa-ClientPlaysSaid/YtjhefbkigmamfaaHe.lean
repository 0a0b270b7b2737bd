/-
  Heard, where it is no answer of the last call, a refusal or a wait: walked once. Where the counts are few.
-/
import Derived.Test.YtjhefbkigmamfaaAs
import Derived.Test.YtjhefbkigmamfaaTo
import Derived.BigQuiet
namespace Go.Proofs.Ytjhefbkigmamfaa
open Go.ChangeShapes Go.WideShapes Go.ChangeAt Go.RowKit
set_option linter.unusedVariables false

theorem number_dr {w : World} {B : Nat} {R : Nat → Prop} {b : Nat} {v : CV} (k : Client w B R b v) (ht : Few v.tries) : Calls Try.prog 32 #[.pointer (some ⟨b, 0, none⟩)] w fun r w' => r = .returned (.int .i64 (v.id * 1000000 + v.tries)) ∧ ∃ n, w' = w.drewN n := by
  have c1 := cell_of k.blk 2 (v := .int .i64 v.id) rfl
  have c2 := cell_of k.blk 7 (v := .int .i64 v.tries) rfl
  have i1 := k.id1
  have i2 := k.id2
  obtain ⟨t0, t1⟩ := ht
  have w1 : IntKind.i64.wrap (v.id * 1000000) = v.id * 1000000 := IntWalk.i64_in _ (by omega)
  have w2 : IntKind.i64.wrap (v.id * 1000000 + v.tries) = v.id * 1000000 + v.tries := IntWalk.i64_in _ (by omega)
  clear i1 i2 t0 t1 k
  go_enter Try.func32, Try.ntmps32
  go_wp2_with fail
  go_quiet (fail)
  go_wp2
  go_ret
  exact ⟨rfl, nq, rfl⟩

theorem to_no {w : World} {B : Nat} {R : Nat → Prop} {b : Nat} {v : CV} (k : Client w B R b v) {x : Int} (hx : x ∉ v.sl) :
    Calls Try.prog 33 #[.pointer (some ⟨b, 0, none⟩), .int .i64 x] w fun e w' => e = .returned (.bool false) ∧ w' = w :=
  Calls.mono (to_any k x) fun e w' h => by
    rcases h with ⟨h1, _, h3⟩ | ⟨i, _, h2, h3, _⟩
    · exact ⟨h1, h3⟩
    · exact absurd (by rw [← h3]; simp [List.getD, h2]) hx
theorem to_yes {w : World} {B : Nat} {R : Nat → Prop} {b : Nat} {v : CV} (k : Client w B R b v) {x : Int} (hx : x ∈ v.sl) :
    Calls Try.prog 33 #[.pointer (some ⟨b, 0, none⟩), .int .i64 x] w fun e w' => ∃ i, e = .returned (.bool true) ∧ i < v.sl.length ∧ v.sl.getD i 0 = x ∧ Client w' B R b { v with at_ := i } ∧ Kp (fun j => j = b) w w' :=
  Calls.mono (to_any k x) fun e w' h => by
    rcases h with ⟨_, h2, _⟩ | h
    · exact absurd hx h2
    · exact h

set_option maxRecDepth 100000 in
set_option maxHeartbeats 4000000 in
theorem heard_none {w : World} {B : Nat} {R : Nat → Prop} {b : Nat} {v : CV} (k : Client w B R b v) (a : AnsV) (ht : Few v.tries) (hn : v.state ≠ 1 ∨ a.id ≠ v.id * 1000000 + v.tries) : Calls Try.prog 15 #[.pointer (some ⟨b, 0, none⟩), .agg a.cells.toArray] w fun e w' => e = .returned (.int .i64 3) ∧ Kp (fun _ => False) w w' := by
  obtain ⟨ai, ae, as_, an, ra, rl, rc, al⟩ := a
  show Calls Try.prog 15 #[.pointer (some ⟨b, 0, none⟩), .agg #[.int .i64 ai, .int .i64 ae, .int .i64 as_, .int .i64 an, .slice ra rl.length rc, .int .i64 al]] w _
  have hka : Kp (fun _ => False) w (w.alloc (.cells #[.int .i64 ai, .int .i64 ae, .int .i64 as_, .int .i64 an, .slice ra rl.length rc, .int .i64 al] 47)) := (Kp.refl _ _).alloc _
  have k1 := k.no hka
  have hX := heap_new w (.cells #[.int .i64 ai, .int .i64 ae, .int .i64 as_, .int .i64 an, .slice ra rl.length rc, .int .i64 al] 47)
  have K1 := Lib.hid k1
  have HX := Lib.hid hX
  have HKA := Lib.hid hka
  have HT := Lib.hid ht
  have HN := Lib.hid hn
  clear k k1 hka hX ht hn
  go_enter Try.func15, Try.ntmps15
  go_upto_region 1 with fail
  generalize w.alloc (.cells #[.int .i64 ai, .int .i64 ae, .int .i64 as_, .int .i64 an, .slice ra rl.length rc, .int .i64 al] 47) = w1 at K1 HX HKA ⊢
  generalize w.heap.size = X at HX ⊢
  have c8 := cell_of K1.out.blk 8 (v := .int .i64 v.state) rfl
  have x0 : w1.cell? ⟨X, 0, none⟩ = some (.int .i64 ai) := cell_of HX.out 0 rfl
  by_cases hs : v.state = 1
  · have hne : (ai != v.id * 1000000 + v.tries) = true := by
      have := HN.out.resolve_left (fun h => h hs)
      simpa using this
    rw [hs] at c8
    clear hs
    go_wp2_with (first | (go_at_call 27; refine (none_no K1.out).mono ?_; rintro e w2 ⟨rfl, rfl⟩))
    go_quiet ((go_at_call 32; exact Calls.quiet_of (number_dr (K1.out.no ((Kp.refl _ _).drewN _)) HT.out)))
    go_wp2
    go_ret
    exact ⟨rfl, HKA.out.drewN _⟩
  · have hsb : (v.state != 1) = true := by simp [hs]
    clear hs
    go_wp2_with (first | (go_at_call 27; refine (none_no K1.out).mono ?_; rintro e w2 ⟨rfl, rfl⟩))
    go_ret
    exact ⟨rfl, HKA.out⟩

set_option maxRecDepth 100000 in
set_option maxHeartbeats 4000000 in
theorem heard_wait {w : World} {B : Nat} {R : Nat → Prop} {b : Nat} {v : CV} (k : Client w B R b v) (a : AnsV) (ht : Few v.tries) (hs : v.state = 1) (hi : a.id = v.id * 1000000 + v.tries) (he : a.e = 42 ∨ a.e = 37 ∨ a.e = 31 ∨ a.e = 32 ∨ a.e = 7) :
    Calls Try.prog 15 #[.pointer (some ⟨b, 0, none⟩), .agg a.cells.toArray] w fun e w' => e = .returned (.int .i64 0) ∧ Client w' B R b { v with passed := v.pat } ∧ Kp (fun j => j = b) w w' := by
  obtain ⟨ai, ae, as_, an, ra, rl, rc, al⟩ := a
  show Calls Try.prog 15 #[.pointer (some ⟨b, 0, none⟩), .agg #[.int .i64 ai, .int .i64 ae, .int .i64 as_, .int .i64 an, .slice ra rl.length rc, .int .i64 al]] w _
  have hblt := lt_of_block k.blk
  have hka : Kp (fun _ => False) w (w.alloc (.cells #[.int .i64 ai, .int .i64 ae, .int .i64 as_, .int .i64 an, .slice ra rl.length rc, .int .i64 al] 47)) := (Kp.refl _ _).alloc _
  have k1 := k.no hka
  have hX := heap_new w (.cells #[.int .i64 ai, .int .i64 ae, .int .i64 as_, .int .i64 an, .slice ra rl.length rc, .int .i64 al] 47)
  simp only at hi he
  have K1 := Lib.hid k1
  have HX := Lib.hid hX
  have HKA := Lib.hid hka
  have HT := Lib.hid ht
  have hne : (ai != v.id * 1000000 + v.tries) = false := by simpa using hi
  have HS := Lib.hid hs
  clear k k1 hka hX ht hi hs
  go_enter Try.func15, Try.ntmps15
  go_upto_region 1 with fail
  generalize w.alloc (.cells #[.int .i64 ai, .int .i64 ae, .int .i64 as_, .int .i64 an, .slice ra rl.length rc, .int .i64 al] 47) = w1 at K1 HX HKA ⊢
  obtain ⟨X, hXe⟩ : ∃ X, X = w.heap.size := ⟨_, rfl⟩
  rw [← hXe] at HX ⊢
  have HXE := Lib.hid hXe
  have HXB := Lib.hid (show X ≠ b from fun e => by have := hblt; omega)
  clear hXe
  have c8 : w1.cell? ⟨b, 8, none⟩ = some (.int .i64 1) := by rw [← HS.out]; exact cell_of K1.out.blk 8 rfl
  have x0 : w1.cell? ⟨X, 0, none⟩ = some (.int .i64 ai) := cell_of HX.out 0 rfl
  go_wp2_with (first | (go_at_call 27; refine (none_no K1.out).mono ?_; rintro e wq ⟨rfl, rfl⟩))
  go_quiet ((go_at_call 32; exact Calls.quiet_of (number_dr (K1.out.no ((Kp.refl _ _).drewN _)) HT.out)))
  have K2 := Lib.hid (K1.out.no (w' := wq.drewN nq) ((Kp.refl _ _).drewN _))
  have HX2 := Lib.hid (show (wq.drewN nq).heap[X]? = _ from HX.out)
  have HK2 := Lib.hid (HKA.out.drewN nq)
  clear K1 HX HKA c8 x0 hne
  generalize wq.drewN nq = w2 at K2 HX2 HK2 ⊢
  have x1 : w2.cell? ⟨X, 1, none⟩ = some (.int .i64 ae) := cell_of HX2.out 1 rfl
  have c3 := cell_of K2.out.blk 3 (v := .int .i64 v.pat) rfl
  have c4 := cell_of K2.out.blk 4 (v := .int .i64 v.passed) rfl
  have f4 := free_of K2.out.blk 4
  have hk3 : Kp (fun j => j = b) w2 (w2.setCell ⟨b, 4, none⟩ (.int .i64 v.pat)) := (Kp.refl (fun j => j = b) _).setCell (p := ⟨b, 4, none⟩) (.inl rfl) _
  have HK3 := Lib.hid ((HK2.out.mono (S' := fun j => j = b) (fun _ _ h => h.elim)).trans hk3)
  have K3 := Lib.hid (K2.out.set hk3 { v with passed := v.pat } (heap_set K2.out.blk 4 (.int .i64 v.pat)) ⟨rfl, rfl, rfl, rfl, rfl, rfl, rfl⟩ K2.out.at_ ⟨K2.out.ord, K2.out.ordR, K2.out.ordL⟩ ⟨K2.out.ans, K2.out.ansR, K2.out.rec_⟩)
  clear hk3 K2 HK2 HX2
  rcases he with rfl | rfl | rfl | rfl | rfl
  · go_wp2_with fail
    go_ret
    exact ⟨rfl, K3.out, HK3.out⟩
  · go_wp2_with fail
    go_ret
    exact ⟨rfl, K3.out, HK3.out⟩
  · go_wp2_with fail
    go_ret
    exact ⟨rfl, K3.out, HK3.out⟩
  · go_wp2_with fail
    go_ret
    exact ⟨rfl, K3.out, HK3.out⟩
  · go_wp2_with fail
    go_ret
    exact ⟨rfl, K3.out, HK3.out⟩

/-- Where a refusal sends a client. -/
def LeadAt (v : CV) (x : Int) (i : Nat) : Prop := (x ∉ v.sl ∧ i = nextAt v) ∨ (i < v.sl.length ∧ v.sl.getD i 0 = x)
set_option maxRecDepth 100000 in
set_option maxHeartbeats 4000000 in
theorem heard_leader {w : World} {B : Nat} {R : Nat → Prop} {b : Nat} {v : CV} (k : Client w B R b v) (a : AnsV) (ht : Few v.tries) (ht1 : Few (v.tries + 1)) (hs : v.state = 1) (hi : a.id = v.id * 1000000 + v.tries) (he : a.e = 30) (hc : v.cl.length ≤ 1500000000000) (hB : B ≤ w.heap.size) :
    Calls Try.prog 15 #[.pointer (some ⟨b, 0, none⟩), .agg a.cells.toArray] w fun e w' => e = .returned (.int .i64 0) ∧ ∃ i da dc R' ca' cc', LeadAt v a.leader i ∧ Client w' B R' b { more { v with at_ := i } with ca := ca', cl := v.cl ++ [callOf (more { v with at_ := i }) da dc], cc := cc' } ∧ Kp (Foot b v.ca) w w' ∧ (∀ j, R' j → R j ∨ w.heap.size ≤ j) ∧ Moved w v.ca ca' := by
  obtain ⟨ai, ae, as_, an, ra, rl, rc, al⟩ := a
  show Calls Try.prog 15 #[.pointer (some ⟨b, 0, none⟩), .agg #[.int .i64 ai, .int .i64 ae, .int .i64 as_, .int .i64 an, .slice ra rl.length rc, .int .i64 al]] w _
  have hblt := lt_of_block k.blk
  have hka : Kp (fun _ => False) w (w.alloc (.cells #[.int .i64 ai, .int .i64 ae, .int .i64 as_, .int .i64 an, .slice ra rl.length rc, .int .i64 al] 47)) := (Kp.refl _ _).alloc _
  have k1 := k.no hka
  have hX := heap_new w (.cells #[.int .i64 ai, .int .i64 ae, .int .i64 as_, .int .i64 an, .slice ra rl.length rc, .int .i64 al] 47)
  simp only at hi he
  have HE := Lib.hid he
  clear he
  have HT1 := Lib.hid ht1
  have HBS := Lib.hid hB
  clear ht1 hB
  have K1 := Lib.hid k1
  have HX := Lib.hid hX
  have HKA := Lib.hid hka
  have HT := Lib.hid ht
  have hne : (ai != v.id * 1000000 + v.tries) = false := by simpa using hi
  have HS := Lib.hid hs
  clear k k1 hka hX ht hi hs
  go_enter Try.func15, Try.ntmps15
  go_upto_region 1 with fail
  generalize w.alloc (.cells #[.int .i64 ai, .int .i64 ae, .int .i64 as_, .int .i64 an, .slice ra rl.length rc, .int .i64 al] 47) = w1 at K1 HX HKA ⊢
  obtain ⟨X, hXe⟩ : ∃ X, X = w.heap.size := ⟨_, rfl⟩
  rw [← hXe] at HX ⊢
  have HXE := Lib.hid hXe
  have HXB := Lib.hid (show X ≠ b from fun e => by have := hblt; omega)
  clear hXe
  have c8 : w1.cell? ⟨b, 8, none⟩ = some (.int .i64 1) := by rw [← HS.out]; exact cell_of K1.out.blk 8 rfl
  have x0 : w1.cell? ⟨X, 0, none⟩ = some (.int .i64 ai) := cell_of HX.out 0 rfl
  go_wp2_with (first | (go_at_call 27; refine (none_no K1.out).mono ?_; rintro e wq ⟨rfl, rfl⟩))
  go_quiet ((go_at_call 32; exact Calls.quiet_of (number_dr (K1.out.no ((Kp.refl _ _).drewN _)) HT.out)))
  have K2 := Lib.hid (K1.out.no (w' := wq.drewN nq) ((Kp.refl _ _).drewN _))
  have HX2 := Lib.hid (show (wq.drewN nq).heap[X]? = _ from HX.out)
  have HK2 := Lib.hid (HKA.out.drewN nq)
  clear K1 HX HKA c8 x0 hne
  generalize wq.drewN nq = w2 at K2 HX2 HK2 ⊢
  have x1 : w2.cell? ⟨X, 1, none⟩ = some (.int .i64 30) := by rw [← HE.out]; exact cell_of HX2.out 1 rfl
  have x5 : w2.cell? ⟨X, 5, none⟩ = some (.int .i64 al) := cell_of HX2.out 5 rfl
  have HX0 := Lib.hid HX2.out
  by_cases hx : al ∈ v.sl
  · have HIN := Lib.hid hx
    clear hx
    go_wp2_with fail
    go_region_held3 (fun w' => w'.cell? ⟨X, 5, none⟩ = some (.int .i64 al)) (first | with_reducible exact x5 | go_keep) ((go_at_call 33; refine (to_yes (K2.out.no (by repeat (first | with_reducible exact Kp.refl _ _ | with_reducible apply Kp.drew))) HIN.out).mono ?_; rintro e w3 ⟨i, rfl, hi, hix, k3, hk3⟩; have x5 : w3.cell? ⟨X, 5, none⟩ = some (.int .i64 al) := cell_of (hk3.heap (by exact HX0.out) (fun e => HXB.out e)) 5 rfl))
    have HK3 := Lib.hid (show Kp (fun j => j = b) w w3 from (HK2.out.mono (S' := fun j => j = b) (fun _ _ h => h.elim)).trans (Kp.andThen (S := fun j => j = b) (by repeat (first | with_reducible exact Kp.refl _ _ | with_reducible apply Kp.drew)) hk3 (fun _ _ h => h)))
    have K3 := Lib.hid k3
    have HIX := Lib.hid hix
    have HIL := Lib.hid hi
    clear hk3 k3 hix hi
    go_wp2_with fail
    refine (ask_any K3.out HT1.out (by have := HT.out; exact this.1) hc (by have := HK3.out.size; have := HBS.out; omega)).mono ?_
    rintro e w5 ⟨rfl, da, dc, R', ca', cc', k5, hk5, hr5, hm5⟩
    have K5 := Lib.hid k5
    have HK5 := Lib.hid (show Kp (Foot b v.ca) w w5 from (HK3.out.mono (S' := Foot b v.ca) (fun _ _ h => .inl h)).trans hk5)
    have HR5 := Lib.hid hr5
    have HM5 := Lib.hid hm5
    have HS3 := HK3.out.size
    clear k5 hk5 hr5 hm5
    go_wp2_with fail
    go_ret
    exact ⟨rfl, i, da, dc, R', ca', cc', .inr ⟨HIL.out, HIX.out⟩, K5.out, HK5.out, fun j hj => (HR5.out j hj).imp_right (fun h => by omega), HM5.out.imp_right (fun h g hg => by have := h g hg; omega)⟩
  · have HIN := Lib.hid hx
    clear hx
    go_wp2_with fail
    go_region_held3 (fun w' => w'.cell? ⟨X, 5, none⟩ = some (.int .i64 al)) (first | with_reducible exact x5 | go_keep) ((go_at_call 33; refine (to_no (K2.out.no (by repeat (first | with_reducible exact Kp.refl _ _ | with_reducible apply Kp.drew))) HIN.out).mono ?_; rintro e w3 ⟨rfl, rfl⟩))
    have KD := Lib.hid (K2.out.no (w' := w2.drew) ((Kp.refl _ _).drew))
    have HKD := Lib.hid (HK2.out.drew)
    clear K2 HK2 HX2
    generalize w2.drew = w4 at KD HKD ⊢
    go_wp2_with fail
    refine (next_any KD.out).mono ?_
    rintro e w3 ⟨rfl, k3, hk3⟩
    have K3 := Lib.hid k3
    have HK3 := Lib.hid ((HKD.out.mono (S' := fun j => j = b) (fun _ _ h => h.elim)).trans hk3)
    clear k3 hk3
    go_wp2_with fail
    refine (ask_any K3.out HT1.out (by have := HT.out; exact this.1) hc (by have := HK3.out.size; have := HBS.out; omega)).mono ?_
    rintro e w5 ⟨rfl, da, dc, R', ca', cc', k5, hk5, hr5, hm5⟩
    have K5 := Lib.hid k5
    have HK5 := Lib.hid (show Kp (Foot b v.ca) w w5 from (HK3.out.mono (S' := Foot b v.ca) (fun _ _ h => .inl h)).trans hk5)
    have HR5 := Lib.hid hr5
    have HM5 := Lib.hid hm5
    have HS3 := HK3.out.size
    clear k5 hk5 hr5 hm5
    go_wp2_with fail
    go_ret
    exact ⟨rfl, nextAt v, da, dc, R', ca', cc', .inl ⟨HIN.out, rfl⟩, K5.out, HK5.out, fun j hj => (HR5.out j hj).imp_right (fun h => by omega), HM5.out.imp_right (fun h g hg => by have := h g hg; omega)⟩
end Go.Proofs.Ytjhefbkigmamfaa
