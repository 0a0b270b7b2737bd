/-
  A client that waits for the answer to a Get, by what the law of its end asks. Where the counts are few.
-/
import Derived.Test.YtjhefbkigmamfaaDy
import Derived.Test.YtjhefbkigmamfaaHx
import Derived.Test.YtjhefbkigmamfaaCw
namespace Go.Proofs.Ytjhefbkigmamfaa
open Go.ChangeShapes Go.WideShapes Go.ChangeAt Go.RowKit
set_option linter.unusedVariables false
set_option linter.unusedSimpArgs false

/-- It waits; the blocks of N are not its own; T: so many tries at the most; t: its tries. -/
def EW (w : World) (B b : Nat) (N : Nat → Prop) (T : Nat) (t : Int) : Prop :=
  ∃ R v, Client w B R b v ∧ (∀ j, N j → ¬ All R b v j) ∧ v.id = 4 ∧ v.pat = 2 ∧ v.state = 1 ∧ 0 ≤ v.passed ∧ v.passed ≤ 2 ∧ v.tries = t ∧ 0 ≤ t ∧ t ≤ T ∧ v.ord.kind = 3 ∧ v.ord.most = 5 ∧ v.cl.length ≤ T ∧ v.seq = 0
theorem EW.kp {w w' : World} {B b : Nat} {N : Nat → Prop} {T : Nat} {t : Int} (h : EW w B b N T t) {S : Nat → Prop} (hk : Kp S w w') (hn : ∀ j, S j → N j ∨ j < B ∨ w.heap.size ≤ j) : EW w' B b N T t := by
  obtain ⟨R, v, k, hN, r⟩ := h
  refine ⟨R, v, k.kp hk (fun j hj hs => ?_), hN, r⟩
  have := k.all hj
  rcases hn j hs with h | h | h
  · exact hN j h hj
  · omega
  · omega
theorem EW.no {w w' : World} {B b : Nat} {N : Nat → Prop} {T : Nat} {t : Int} (h : EW w B b N T t) (hk : Kp (fun _ => False) w w') : EW w' B b N T t := h.kp hk (fun _ h => h.elim)
theorem EW.other {w : World} {B b : Nat} {N N' : Nat → Prop} {T : Nat} {t : Int} (h : EW w B b N T t) (hn : ∀ j, N' j → N j ∨ w.heap.size ≤ j) : EW w B b N' T t := by
  obtain ⟨R, v, k, hN, r⟩ := h
  refine ⟨R, v, k, fun j hj ha => ?_, r⟩
  have := (k.all ha).2
  rcases hn j hj with h | h
  · exact hN j h ha
  · omega
theorem EW.lt {w : World} {B b : Nat} {N : Nat → Prop} {T : Nat} {t : Int} (h : EW w B b N T t) : B ≤ b ∧ b < w.heap.size := by
  obtain ⟨R, v, k, _⟩ := h
  exact ⟨k.ge, lt_of_block k.blk⟩
theorem EW.tr {w : World} {B b : Nat} {N : Nat → Prop} {T : Nat} {t : Int} (h : EW w B b N T t) : 0 ≤ t ∧ t ≤ T := by
  obtain ⟨R, v, k, _, _, _, _, _, _, _, h0, h1, _⟩ := h
  exact ⟨h0, h1⟩

theorem open_ew {w : World} {B : Nat} {R : Nat → Prop} {b : Nat} {sa : Option Addr} {zs : List Int} {sc : Nat} (k : Client w B R b (cv0 sa zs sc 4 2)) :
    Calls Try.prog 12 #[.pointer (some ⟨b, 0, none⟩), .agg #[.int .i64 3, .int .i64 0, .int .i64 5, .slice none 0 0]] w fun e w' => e = .returned (.int .i64 0) ∧ (∃ t, EW w' B b (fun _ => False) 1 t) ∧ Kp (fun j => j = b) w w' := by
  refine Calls.mono (do_yes k ⟨3, 0, 5, none, [], 0⟩ (by simp [doE, rightO, cv0]) (Row.nil _ _) (fun g hg => by cases hg) (by simp) (few_small _ (by simp [cv0]) (by simp [cv0])) (by simp [cv0]) (few_small _ (by simp [cv0]) (by simp [cv0])) (by simp [cv0]) (by simp [cv0]) (Nat.le_trans k.ge (Nat.le_of_lt (lt_of_block k.blk)))) ?_
  rintro e w' ⟨he, oa, oc, da, dc, R', ca', cc', k', hk, hr, hm⟩
  exact ⟨he, ⟨1, R', _, k', fun j h => h.elim, rfl, rfl, rfl, by simp [more], by simp [more], rfl, by simp [more, withO, cv0], by simp [more, withO, cv0], rfl, rfl, by simp [cv0], by simp [more, withO, cv0]⟩, hk.mono (fun j _ h => h.elim (fun e => e) (fun e => by cases e))⟩

theorem tries_ew {w : World} {B b : Nat} {N : Nat → Prop} {T : Nat} {t : Int} (h : EW w B b N T t) : Calls Try.prog 16 #[.pointer (some ⟨b, 0, none⟩)] w fun e w' => e = .returned (.int .i64 t) ∧ w = w' := by
  obtain ⟨R, v, k, _, _, _, _, _, _, rfl, _⟩ := h
  exact Calls.mono (tries_any k) fun e w' ⟨h1, h2⟩ => ⟨h1, h2.symm⟩
theorem busy_ew {w : World} {B b : Nat} {N : Nat → Prop} {T : Nat} {t : Int} (h : EW w B b N T t) : Calls Try.prog 17 #[.pointer (some ⟨b, 0, none⟩)] w fun e w' => e = .returned (.bool true) ∧ w = w' := by
  obtain ⟨R, v, k, _, _, _, hs, _⟩ := h
  refine Calls.mono (busy_any k) fun e w' ⟨h1, h2⟩ => ⟨by rw [h1, hs]; rfl, h2.symm⟩
theorem done_ew {w : World} {B b : Nat} {N : Nat → Prop} {T : Nat} {t : Int} (h : EW w B b N T t) : Calls Try.prog 18 #[.pointer (some ⟨b, 0, none⟩)] w fun e w' => e = .returned (.tuple #[.agg #[.int .i64 0, .int .i64 0, .int .i64 0, .slice none 0 0], .agg #[.int .i64 0, .int .i64 0, .int .i64 0, .int .i64 0, .slice none 0 0, .int .i64 0], .bool false]) ∧ EW w' B b N T t ∧ Kp (fun _ => False) w w' := by
  have h0 := h
  obtain ⟨R, v, k, _, _, _, hs, _⟩ := h
  exact Calls.mono (done_no k (by rw [hs]; decide)) fun e w' ⟨h1, h2⟩ => ⟨h1, h0.no h2, h2⟩
theorem tick_ew {w : World} {B b : Nat} {N : Nat → Prop} {T : Nat} {t : Int} (h : EW w B b N T t) (hT : T ≤ 1000) (hN : ∀ j, N j → j < w.heap.size) : Calls Try.prog 13 #[.pointer (some ⟨b, 0, none⟩)] w fun e w' => e = .returned (.int .i64 0) ∧ (∃ t', EW w' B b N (T + 1) t') ∧ Kp (fun j => B ≤ j ∧ ¬ N j) w w' := by
  obtain ⟨R, v, k, hn, h1, h2, h3, h4, h5, h6, h7, h8, h9, h10, h11, h12⟩ := h
  have hfoot : ∀ j, Foot b v.ca j → B ≤ j ∧ ¬ N j := fun j h => ⟨(k.foot h).1, fun e => hn j e (.inl h)⟩
  by_cases hlt : v.passed + 1 < v.pat
  · refine Calls.mono (tick_wait k h3 h4 hlt) ?_
    rintro e w' ⟨he, k', hk⟩
    exact ⟨he, ⟨t, R, _, k', hn, h1, h2, h3, (show 0 ≤ v.passed + 1 by omega), (show v.passed + 1 ≤ 2 by omega), h6, h7, by omega, h9, h10, (by show v.cl.length ≤ T + 1; omega), h12⟩, hk.mono (fun j _ (e : j = b) => hfoot j (.inl e))⟩
  · refine Calls.mono (tick_ask k h3 h4 (by omega) (by omega) ⟨by omega, by omega⟩ (by omega) (by omega) (Nat.le_trans k.ge (Nat.le_of_lt (lt_of_block k.blk)))) ?_
    rintro e w' ⟨he, da, dc, R', ca', cc', k', hk, hr, hm⟩
    refine ⟨he, ⟨t + 1, R', _, k', fun j hj ha => ?_, h1, h2, h3, by simp [more], by simp [more], (show v.tries + 1 = t + 1 by omega), by omega, by omega, h9, h10, ?_, h12⟩, hk.mono (fun j _ h => hfoot j h)⟩
    · rcases ha with ha | ha
      · exact hn j hj (.inl (hm.old ha (hN j hj)))
      · rcases hr j ha with h | h
        · exact hn j hj (.inr h)
        · have := hN j hj; omega
    · simp
      omega
theorem heard_ew {w : World} {B b : Nat} {N : Nat → Prop} {T : Nat} {t : Int} (h : EW w B b N T t) (hT : T ≤ 1000) (hN : ∀ j, N j → j < w.heap.size) (e l : Int) (he : e = 30 ∨ e = 42 ∨ e = 37 ∨ e = 31 ∨ e = 32 ∨ e = 7) :
    Calls Try.prog 15 #[.pointer (some ⟨b, 0, none⟩), .agg #[.int .i64 (4000000 + t), .int .i64 e, .int .i64 0, .int .i64 0, .slice none 0 0, .int .i64 l]] w fun e w' => e = .returned (.int .i64 0) ∧ (∃ t', EW w' B b N (T + 1) t') ∧ Kp (fun j => B ≤ j ∧ ¬ N j) w w' := by
  obtain ⟨R, v, k, hn, h1, h2, h3, h4, h5, h6, h7, h8, h9, h10, h11, h12⟩ := h
  have hfoot : ∀ j, Foot b v.ca j → B ≤ j ∧ ¬ N j := fun j h => ⟨(k.foot h).1, fun e => hn j e (.inl h)⟩
  rcases he with he | he
  · refine Calls.mono (heard_leader k ⟨4000000 + t, e, 0, 0, none, [], 0, l⟩ ⟨by omega, by omega⟩ ⟨by omega, by omega⟩ h3 (by show 4000000 + t = _; rw [h1, h6]; omega) he (by omega) (Nat.le_trans k.ge (Nat.le_of_lt (lt_of_block k.blk)))) ?_
    rintro e w' ⟨he, i, da, dc, R', ca', cc', hl, k', hk, hr, hm⟩
    refine ⟨he, ⟨t + 1, R', _, k', fun j hj ha => ?_, h1, h2, h3, by simp [more], by simp [more], (show v.tries + 1 = t + 1 by omega), by omega, by omega, h9, h10, ?_, h12⟩, hk.mono (fun j _ h => hfoot j h)⟩
    · rcases ha with ha | ha
      · exact hn j hj (.inl (hm.old ha (hN j hj)))
      · rcases hr j ha with h | h
        · exact hn j hj (.inr h)
        · have := hN j hj; omega
    · simp
      omega
  · refine Calls.mono (heard_wait k ⟨4000000 + t, e, 0, 0, none, [], 0, l⟩ ⟨by omega, by omega⟩ h3 (by show 4000000 + t = _; rw [h1, h6]; omega) he) ?_
    rintro e w' ⟨he, k', hk⟩
    exact ⟨he, ⟨t, R, _, k', hn, h1, h2, h3, (show 0 ≤ v.pat by omega), (show v.pat ≤ 2 by omega), h6, h7, by omega, h9, h10, (by show v.cl.length ≤ T + 1; omega), h12⟩, hk.mono (fun j _ (e : j = b) => hfoot j (.inl e))⟩
/-- An answer to the call ahead of the last. -/
theorem early_ew {w : World} {B b : Nat} {N : Nat → Prop} {T : Nat} {t : Int} (h : EW w B b N T t) (hT : T ≤ 1000) :
    Calls Try.prog 15 #[.pointer (some ⟨b, 0, none⟩), .agg #[.int .i64 (4000000 + t - 1), .int .i64 0, .int .i64 0, .int .i64 0, .slice none 0 0, .int .i64 0]] w fun e w' => e = .returned (.int .i64 3) ∧ EW w' B b N T t ∧ Kp (fun _ => False) w w' := by
  have h0 := h
  obtain ⟨R, v, k, hn, h1, h2, h3, h4, h5, h6, h7, h8, h9, h10, h11, h12⟩ := h
  exact Calls.mono (heard_none k ⟨4000000 + t - 1, 0, 0, 0, none, [], 0, 0⟩ ⟨by omega, by omega⟩ (.inr (by show ¬ 4000000 + t - 1 = _; rw [h1, h6]; omega))) fun e w' ⟨h1, h2⟩ => ⟨h1, h0.no h2, h2⟩
/-- A client that has its answer. -/
def EE (w : World) (B b : Nat) (e n : Int) : Prop := ∃ R v, Client w B R b v ∧ v.state = 2 ∧ v.ord.kind = 3 ∧ v.ord.most = 5 ∧ v.ans.e = e ∧ v.ans.number = n ∧ 0 ≤ v.tries ∧ v.tries ≤ 1000 ∧ v.cl.length ≤ 1000 ∧ v.seq = 0
theorem EE.kp {w w' : World} {B b : Nat} {e n : Int} (h : EE w B b e n) (hk : Kp (fun _ => False) w w') : EE w' B b e n := by
  obtain ⟨R, v, k, r⟩ := h
  exact ⟨R, v, k.no hk, r⟩
/-- The answer that ends it. -/
theorem ends_ew {w : World} {B b : Nat} {N : Nat → Prop} {T : Nat} {t : Int} (h : EW w B b N T t) (hT : T ≤ 1000) (e n : Int) (he : Ends e) :
    Calls Try.prog 15 #[.pointer (some ⟨b, 0, none⟩), .agg #[.int .i64 (4000000 + t), .int .i64 e, .int .i64 0, .int .i64 n, .slice none 0 0, .int .i64 0]] w fun r w' => r = .returned (.int .i64 0) ∧ EE w' B b e n ∧ Kp (fun j => B ≤ j) w w' := by
  obtain ⟨R, v, k, hn, h1, h2, h3, h4, h5, h6, h7, h8, h9, h10, h11, h12⟩ := h
  refine Calls.mono (heard_ends k ⟨4000000 + t, e, 0, n, none, [], 0, 0⟩ ⟨by omega, by omega⟩ h3 (by show 4000000 + t = _; rw [h1, h6]; omega) he (Row.nil _ _) (fun r hr => by cases hr) (by simp)) ?_
  rintro r w' ⟨hr, na, new, nc, R', k', hnl, hcp, hk, hR⟩
  exact ⟨hr, ⟨R', _, k', rfl, h9, h10, rfl, rfl, (show 0 ≤ v.tries by omega), (show v.tries ≤ 1000 by omega), (show v.cl.length ≤ 1000 by omega), h12⟩, hk.mono (fun j _ (e : j = b) => by rw [e]; exact k.ge)⟩
/-- A client with nothing to do. -/
def EI (w : World) (B b : Nat) : Prop := ∃ R v, Client w B R b v ∧ v.state = 0 ∧ 0 ≤ v.tries ∧ v.tries ≤ 1000 ∧ v.cl.length ≤ 1000 ∧ v.seq = 0
theorem EI.no {w w' : World} {B b : Nat} (h : EI w B b) (hk : Kp (fun _ => False) w w') : EI w' B b := by
  obtain ⟨R, v, k, r⟩ := h
  exact ⟨R, v, k.no hk, r⟩
theorem done_ee {w : World} {B b : Nat} {e n : Int} (h : EE w B b e n) : Calls Try.prog 18 #[.pointer (some ⟨b, 0, none⟩)] w fun r w' => (∃ f x l c i s ra rl rc al, r = .returned (.tuple #[.agg #[.int .i64 3, .int .i64 f, .int .i64 5, .slice x l c], .agg #[.int .i64 i, .int .i64 e, .int .i64 s, .int .i64 n, .slice ra rl rc, .int .i64 al], .bool true])) ∧ EI w' B b ∧ Kp (fun j => B ≤ j) w w' := by
  obtain ⟨R, v, k, h1, h2, h3, h4, h5, h6, h7, h8, h9⟩ := h
  refine Calls.mono (done_yes k h1) ?_
  rintro r w' ⟨hr, k', hk⟩
  refine ⟨⟨v.ord.from_, v.ord.da, v.ord.dl.length, v.ord.dc, v.ans.id, v.ans.session, v.ans.ra, v.ans.rl.length, v.ans.rc, v.ans.leader, ?_⟩, ⟨R, _, k', rfl, h6, h7, h8, h9⟩, hk.mono (fun j _ (e : j = b) => by rw [e]; exact k.ge)⟩
  rw [hr, ← h2, ← h3, ← h4, ← h5]
  rfl
theorem done_ei {w : World} {B b : Nat} (h : EI w B b) : Calls Try.prog 18 #[.pointer (some ⟨b, 0, none⟩)] w fun e w' => e = .returned (.tuple #[.agg #[.int .i64 0, .int .i64 0, .int .i64 0, .slice none 0 0], .agg #[.int .i64 0, .int .i64 0, .int .i64 0, .int .i64 0, .slice none 0 0, .int .i64 0], .bool false]) ∧ EI w' B b ∧ Kp (fun _ => False) w w' := by
  have h0 := h
  obtain ⟨R, v, k, hs, _⟩ := h
  exact Calls.mono (done_no k (by rw [hs]; decide)) fun e w' ⟨h1, h2⟩ => ⟨h1, h0.no h2, h2⟩
theorem busy_ei {w : World} {B b : Nat} (h : EI w B b) : Calls Try.prog 17 #[.pointer (some ⟨b, 0, none⟩)] w fun e w' => e = .returned (.bool false) ∧ w = w' := by
  obtain ⟨R, v, k, hs, _⟩ := h
  refine Calls.mono (busy_any k) fun e w' ⟨h1, h2⟩ => ⟨by rw [h1, hs]; rfl, h2.symm⟩
theorem do_ei {w : World} {B b : Nat} (h : EI w B b) : Calls Try.prog 12 #[.pointer (some ⟨b, 0, none⟩), .agg #[.int .i64 1, .int .i64 0, .int .i64 0, .slice none 0 0]] w fun e w' => e = .returned (.int .i64 0) ∧ Kp (fun j => B ≤ j) w w' := by
  obtain ⟨R, v, k, hs, h1, h2, h3, h4⟩ := h
  refine Calls.mono (do_yes k open0 (doE_open hs) (Row.nil _ _) (fun g hg => by cases hg) (by simp [open0]) (few_small _ (by omega) (by omega)) (by omega) (few_small _ (by omega) (by omega)) h1 (by omega) (Nat.le_trans k.ge (Nat.le_of_lt (lt_of_block k.blk)))) ?_
  rintro e w' ⟨he, oa, oc, da, dc, R', ca', cc', k', hk, hr, hm⟩
  exact ⟨he, hk.mono (fun j _ h => (k.foot h).1)⟩
end Go.Proofs.Ytjhefbkigmamfaa
