/-
  A client by what the law of its calls asks: each method's contract. Where the counts are few.
-/
import Derived.Test.YtjhefbkigmamfaaEw
import Derived.Test.YtjhefbkigmamfaaAns
import Derived.Laws.BytesArg
namespace Go.Proofs.Ytjhefbkigmamfaa
open Go.ChangeShapes Go.WideShapes Go.ChangeAt Go.RowKit
set_option linter.unusedVariables false
set_option linter.unusedSimpArgs false

theorem Row.str {w : World} {a : Option Addr} {zs : List Int} (h : Row w a (bytes zs)) (c : Nat) : (convert 30 9 (.slice a zs.length c)).run Try.prog w = .ok (.string (strOfNums zs)) w := by
  match zs, h with
  | [], h =>
    cases a with
    | none => exact run_convert_bytes_nil w 30 5 Try.underlying30 Try.underlying5 0 c 9 Try.underlying9
    | some ad =>
      show (convert 30 9 (.slice (some ad) 0 c)).run Try.prog w = _
      rw [run_convert_bytes_string w 30 9 5 _ _ c Try.underlying30 Try.underlying5 Try.underlying9, run_bytesToString w ad 0 c [] (run_loadCells_list (P := Try.prog) w ad [] (fun j v hj => by cases hj))]
      rfl
  | z :: r, h =>
    obtain ⟨b, off, rfl, _⟩ := h 0 (.int .u8 z) rfl
    refine run_convert_bytes_arg w 30 5 Try.underlying30 Try.underlying5 b off _ c (z :: r) rfl (fun i hi => ?_) 9 Try.underlying9
    obtain ⟨b', off', e, hc⟩ := h i (.int .u8 ((z :: r).getD i 0)) (by unfold bytes; rw [List.getElem?_map, List.getElem?_eq_getElem hi]; simp [List.getD, List.getElem?_eq_getElem hi])
    cases e
    exact hc

/-- A call that asks what the order asks. -/
def Asks (A : Int) (t sq : Nat) (ss : Int) (o : OrdV) (q : CallV) : Prop :=
  q.id = A * 1000000 + ((t : Int) + 1) ∧ q.kind = o.kind ∧ q.from_ = o.from_ ∧ q.most = o.most ∧ q.dl = o.dl ∧ (o.kind = 2 → q.seq = sq ∧ q.session = ss)
/-- t: its tries ahead of the last op; k: the calls that are to be taken; sq: its seq; o, ss: the last order that it took, and the session then. -/
def SW (w : World) (B b : Nat) (N : Nat → Prop) (A : Int) (t k sq : Nat) (ss : Int) (o : OrdV) : Prop :=
  ∃ R v, Client w B R b v ∧ (∀ j, N j → ¬ All R b v j) ∧ v.id = A ∧ v.pat = 3 ∧ 0 ≤ v.passed ∧ v.passed ≤ 3 ∧ v.tries = ((t + k : Nat) : Int) ∧ v.seq = sq ∧ v.cl.length = k ∧ (∀ q ∈ v.cl, Asks A t sq ss o q) ∧
    (v.state = 1 → v.session = ss ∧ v.ord.kind = o.kind ∧ v.ord.from_ = o.from_ ∧ v.ord.most = o.most ∧ v.ord.dl = o.dl)
theorem SW.kp {w w' : World} {B b : Nat} {N : Nat → Prop} {A : Int} {t k sq : Nat} {ss : Int} {o : OrdV} (h : SW w B b N A t k sq ss o) {S : Nat → Prop} (hk : Kp S w w') (hn : ∀ j, S j → N j ∨ j < B ∨ w.heap.size ≤ j) : SW w' B b N A t k sq ss o := by
  obtain ⟨R, v, c, hN, r⟩ := h
  refine ⟨R, v, c.kp hk (fun j hj hs => ?_), hN, r⟩
  have := c.all hj
  rcases hn j hs with h | h | h
  · exact hN j h hj
  · omega
  · omega
theorem SW.no {w w' : World} {B b : Nat} {N : Nat → Prop} {A : Int} {t k sq : Nat} {ss : Int} {o : OrdV} (h : SW w B b N A t k sq ss o) (hk : Kp (fun _ => False) w w') : SW w' B b N A t k sq ss o := h.kp hk (fun _ h => h.elim)
theorem SW.other {w : World} {B b : Nat} {N N' : Nat → Prop} {A : Int} {t k sq : Nat} {ss : Int} {o : OrdV} (h : SW w B b N A t k sq ss o) (hn : ∀ j, N' j → N j ∨ w.heap.size ≤ j) : SW w B b N' A t k sq ss o := by
  obtain ⟨R, v, c, hN, r⟩ := h
  refine ⟨R, v, c, fun j hj ha => ?_, r⟩
  have := (c.all ha).2
  rcases hn j hj with h | h
  · exact hN j h ha
  · omega
theorem SW.lt {w : World} {B b : Nat} {N : Nat → Prop} {A : Int} {t k sq : Nat} {ss : Int} {o : OrdV} (h : SW w B b N A t k sq ss o) : B ≤ b ∧ b < w.heap.size := by
  obtain ⟨R, v, c, _⟩ := h
  exact ⟨c.ge, lt_of_block c.blk⟩
/-- A new client's. -/
theorem new_sw {w : World} {B : Nat} {R : Nat → Prop} {b : Nat} {sa : Option Addr} {zs : List Int} {sc : Nat} {A : Int} (k : Client w B R b (cv0 sa zs sc A 3)) (o : OrdV) (ss : Int) : SW w B b (fun _ => False) A 0 0 0 ss o :=
  ⟨R, _, k, fun _ h => h.elim, rfl, rfl, by simp [cv0], by simp [cv0], rfl, rfl, rfl, (fun q hq => by cases hq), fun h => absurd (show (0 : Int) = 1 from h) (by decide)⟩
theorem tries_sw {w : World} {B b : Nat} {N : Nat → Prop} {A : Int} {t sq : Nat} {ss : Int} {o : OrdV} (h : SW w B b N A t 0 sq ss o) : Calls Try.prog 16 #[.pointer (some ⟨b, 0, none⟩)] w fun e w' => e = .returned (.int .i64 t) ∧ w = w' := by
  obtain ⟨R, v, k, _, _, _, _, _, h1, _⟩ := h
  exact Calls.mono (tries_any k) fun e w' ⟨h2, h3⟩ => ⟨by rw [h2, h1]; rfl, h3.symm⟩
theorem seq_sw {w : World} {B b : Nat} {N : Nat → Prop} {A : Int} {t k sq : Nat} {ss : Int} {o : OrdV} (h : SW w B b N A t k sq ss o) : Calls Try.prog 24 #[.pointer (some ⟨b, 0, none⟩)] w fun e w' => e = .returned (.int .i64 sq) ∧ w = w' := by
  obtain ⟨R, v, k, _, _, _, _, _, _, h1, _⟩ := h
  exact Calls.mono (seq_any k) fun e w' ⟨h2, h3⟩ => ⟨by rw [h2, h1], h3.symm⟩
theorem calls_sw {w : World} {B b : Nat} {N : Nat → Prop} {A : Int} {t k sq : Nat} {ss : Int} {o : OrdV} (h : SW w B b N A t k sq ss o) :
    Calls Try.prog 14 #[.pointer (some ⟨b, 0, none⟩)] w fun e w' => ∃ a l c, e = .returned (.slice a k c) ∧ l.length = k ∧ (∀ q ∈ l, Asks A t sq ss o q ∧ Row w' q.da (bytes q.dl)) ∧ CallsAt w' a l ∧ SW w' B b N A (t + k) 0 sq ss o ∧ Kp (fun j => B ≤ j ∧ ¬ N j) w w' := by
  obtain ⟨R, v, c, hN, h1, h2, h3, h4, h5, h6, h7, h8, h9⟩ := h
  refine Calls.mono (calls_any c) ?_
  rintro e w' ⟨he, c', hk⟩
  have hb : ∀ g, blockOf v.ca = some g → ¬ g = b := fun g hg e => c.ne (e ▸ hg)
  refine ⟨v.ca, v.cl, v.cc, by rw [he, h7], h7, fun q hq => ⟨h8 q hq, (c.dat q hq).1.kp hk (fun g hg e => c.dis b (.inl rfl) (e ▸ (c.dat q hq).2 g hg))⟩, c.list.kp hk hb, ⟨R, _, c', fun j hj ha => hN j hj ?_, h1, h2, h3, h4, by simpa using h5, h6, rfl, fun q hq => (by cases hq), h9⟩, hk.mono (fun j _ (e : j = b) => by rw [e]; exact ⟨c.ge, fun hn => hN b hn (.inl (.inl rfl))⟩)⟩
  exact ha.elim (fun h => h.elim (fun e => .inl (.inl e)) (fun e => by cases e)) .inr

/-- An order that it does not take, and one that it takes. -/
theorem do_sw {w : World} {B b : Nat} {N : Nat → Prop} {A : Int} {t sq : Nat} {ss : Int} {o : OrdV} (h : SW w B b N A t 0 sq ss o) (hN : ∀ j, N j → j < w.heap.size) (ht : t ≤ 100000) (hq : sq ≤ 100000) (ki fr mo : Int) (a : Option Addr) (dl : List Int) (c : Nat) (hr : Row w a (bytes dl)) (hm : dl.length ≤ 140737488355328) (hb : ∀ g, blockOf a = some g → g ≠ b) :
    Calls Try.prog 12 #[.pointer (some ⟨b, 0, none⟩), .agg #[.int .i64 ki, .int .i64 fr, .int .i64 mo, .slice a dl.length c]] w fun e w' => (∃ E, E ≠ 0 ∧ e = .returned (.int .i64 E) ∧ SW w' B b N A t 0 sq ss o ∧ Kp (fun _ => False) w w') ∨
      (e = .returned (.int .i64 0) ∧ (∃ s2, SW w' B b N A t 1 (if ki = 2 then sq + 1 else sq) s2 ⟨ki, fr, mo, none, dl, 0⟩ ∧ ∀ (S : Nat → Prop) (w2 : World), Kp S w' w2 → (∀ j, S j → N j ∨ j < B ∨ w'.heap.size ≤ j) → Calls Try.prog 23 #[.pointer (some ⟨b, 0, none⟩)] w2 fun e w3 => e = .returned (.int .i64 s2) ∧ w2 = w3) ∧ Kp (fun j => B ≤ j ∧ ¬ N j) w w') := by
  have h0 := h
  obtain ⟨R, v, k, hn, h1, h2, h3, h4, h5, h6, h7, h8, h9⟩ := h
  have hfoot : ∀ j, Foot b v.ca j → B ≤ j ∧ ¬ N j := fun j h => ⟨(k.foot h).1, fun e => hn j e (.inl h)⟩
  by_cases hE : doE v ⟨ki, fr, mo, a, dl, c⟩ = 0
  · refine Calls.mono (do_yes k ⟨ki, fr, mo, a, dl, c⟩ hE hr hb hm ⟨by omega, by omega⟩ (by omega) ⟨by omega, by omega⟩ (by omega) (by omega) (Nat.le_trans k.ge (Nat.le_of_lt (lt_of_block k.blk)))) ?_
    rintro e w' ⟨he, oa, oc, da, dc, R', ca', cc', k', hk, hr', hmv⟩
    have hcl : v.cl = [] := List.eq_nil_of_length_eq_zero h7
    have hsq : (withO v ⟨ki, fr, mo, a, dl, c⟩ oa oc).seq = ((if ki = 2 then sq + 1 else sq : Nat) : Int) := by
      show (if ki = 2 then v.seq + 1 else v.seq) = _
      split <;> simp [h6]
    have hna : ∀ j, N j → ¬ All R' b { more (withO v ⟨ki, fr, mo, a, dl, c⟩ oa oc) with ca := ca', cl := v.cl ++ [callOf (more (withO v ⟨ki, fr, mo, a, dl, c⟩ oa oc)) da dc], cc := cc' } j := fun j hj ha => by
      rcases ha with ha | ha
      · exact hn j hj (.inl (hmv.old ha (hN j hj)))
      · rcases hr' j ha with h | h
        · exact hn j hj (.inr h)
        · have := hN j hj; omega
    refine .inr ⟨he, ⟨v.session, ⟨R', _, k', hna, h1, h2, by simp [more], by simp [more], ?_, hsq, by simp [hcl], fun q hq => ?_, fun _ => ⟨rfl, rfl, rfl, rfl, rfl⟩⟩, ?_⟩, hk.mono (fun j _ h => hfoot j h)⟩
    · show v.tries + 1 = _
      omega
    · rw [hcl] at hq
      simp at hq
      subst hq
      refine ⟨?_, rfl, rfl, rfl, rfl, fun e2 => ?_⟩
      · show v.id * 1000000 + (v.tries + 1) = _
        rw [h1, h5]; simp
      · have e2 : ki = 2 := e2
        subst e2
        refine ⟨?_, ?_⟩
        · show (if (2 : Int) = 2 then (withO v ⟨2, fr, mo, a, dl, c⟩ oa oc).seq else 0) = _
          rw [if_pos rfl, hsq]
        · show (if (2 : Int) = 2 then v.session else 0) = _
          rw [if_pos rfl]
    · intro S w2 hk2 hS
      refine Calls.mono (session_any (k'.kp hk2 (fun j hj hs => ?_))) fun e w2 ⟨h1, h2⟩ => ⟨h1, h2.symm⟩
      have := k'.all hj
      rcases hS j hs with h | h | h
      · exact hna j h hj
      · omega
      · omega
  · exact Calls.mono (do_no k ⟨ki, fr, mo, a, dl, c⟩ hE) fun e w' ⟨he, hk⟩ => .inl ⟨_, hE, he, h0.no hk, hk⟩
theorem tick_sw {w : World} {B b : Nat} {N : Nat → Prop} {A : Int} {t sq : Nat} {ss : Int} {o : OrdV} (h : SW w B b N A t 0 sq ss o) (hN : ∀ j, N j → j < w.heap.size) (ht : t ≤ 100000) :
    Calls Try.prog 13 #[.pointer (some ⟨b, 0, none⟩)] w fun e w' => e = .returned (.int .i64 0) ∧ (∃ k, k ≤ 1 ∧ SW w' B b N A t k sq ss o) ∧ Kp (fun j => B ≤ j ∧ ¬ N j) w w' := by
  have h0 := h
  obtain ⟨R, v, k, hn, h1, h2, h3, h4, h5, h6, h7, h8, h9⟩ := h
  have hfoot : ∀ j, Foot b v.ca j → B ≤ j ∧ ¬ N j := fun j h => ⟨(k.foot h).1, fun e => hn j e (.inl h)⟩
  by_cases hs : v.state = 1
  · obtain ⟨g1, g2, g3, g4, g5⟩ := h9 hs
    have hcl : v.cl = [] := List.eq_nil_of_length_eq_zero h7
    by_cases hlt : v.passed + 1 < v.pat
    · refine Calls.mono (tick_wait k hs h3 hlt) ?_
      rintro e w' ⟨he, k', hk⟩
      exact ⟨he, ⟨0, by omega, R, _, k', hn, h1, h2, (show 0 ≤ v.passed + 1 by omega), (show v.passed + 1 ≤ 3 by omega), h5, h6, h7, h8, h9⟩, hk.mono (fun j _ (e : j = b) => hfoot j (.inl e))⟩
    · refine Calls.mono (tick_ask k hs h3 (by omega) (by omega) ⟨by omega, by omega⟩ (by omega) (by omega) (Nat.le_trans k.ge (Nat.le_of_lt (lt_of_block k.blk)))) ?_
      rintro e w' ⟨he, da, dc, R', ca', cc', k', hk, hr', hmv⟩
      refine ⟨he, ⟨1, Nat.le_refl _, R', _, k', fun j hj ha => ?_, h1, h2, by simp [more], by simp [more], (show v.tries + 1 = _ by omega), h6, by simp [hcl], fun q hq => ?_, fun _ => ⟨g1, g2, g3, g4, g5⟩⟩, hk.mono (fun j _ h => hfoot j h)⟩
      · rcases ha with ha | ha
        · exact hn j hj (.inl (hmv.old ha (hN j hj)))
        · rcases hr' j ha with h | h
          · exact hn j hj (.inr h)
          · have := hN j hj; omega
      · rw [hcl] at hq
        simp at hq
        subst hq
        refine ⟨?_, g2, g3, g4, g5, fun e2 => ⟨?_, ?_⟩⟩
        · show v.id * 1000000 + (v.tries + 1) = _
          rw [h1, h5]; simp
        · show (if v.ord.kind = 2 then v.seq else 0) = _
          rw [g2, if_pos e2, h6]
        · show (if v.ord.kind = 2 then v.session else 0) = _
          rw [g2, if_pos e2, g1]
  · refine Calls.mono (tick_idle k hs) ?_
    rintro e w' ⟨he, rfl⟩
    exact ⟨he, ⟨0, by omega, h0⟩, Kp.refl _ _⟩
theorem done_sw {w : World} {B b : Nat} {N : Nat → Prop} {A : Int} {t sq : Nat} {ss : Int} {o : OrdV} (h : SW w B b N A t 0 sq ss o) :
    Calls Try.prog 18 #[.pointer (some ⟨b, 0, none⟩)] w fun e w' => (∃ x y z, e = .returned (.tuple #[x, y, z])) ∧ SW w' B b N A t 0 sq ss o ∧ Kp (fun j => B ≤ j ∧ ¬ N j) w w' := by
  have h0 := h
  obtain ⟨R, v, k, hn, h1, h2, h3, h4, h5, h6, h7, h8, h9⟩ := h
  have hfoot : ∀ j, Foot b v.ca j → B ≤ j ∧ ¬ N j := fun j h => ⟨(k.foot h).1, fun e => hn j e (.inl h)⟩
  by_cases hs : v.state = 2
  · refine Calls.mono (done_yes k hs) ?_
    rintro e w' ⟨he, k', hk⟩
    refine ⟨⟨_, _, _, he⟩, ⟨R, _, k', hn, h1, h2, h3, h4, h5, h6, h7, h8, fun h => by simp [told] at h⟩, hk.mono (fun j _ (e : j = b) => hfoot j (.inl e))⟩
  · exact Calls.mono (done_no k hs) fun e w' ⟨he, hk⟩ => ⟨⟨_, _, _, he⟩, h0.no hk, hk.mono (fun _ _ h => h.elim)⟩
theorem heard_sw {w : World} {B b : Nat} {N : Nat → Prop} {A : Int} {t sq : Nat} {ss : Int} {o : OrdV} (h : SW w B b N A t 0 sq ss o) (hN : ∀ j, N j → j < w.heap.size) (ht : t ≤ 100000) (a : AnsV) (hid : a.id = A * 1000000 + t)
    (hr : Row w a.ra (a.rl.map RecV.val)) (hrr : ∀ r ∈ a.rl, Row w r.a (bytes r.d) ∧ r.d.length ≤ 140737488355328) (hm : a.rl.length * 24 ≤ 140737488355328) :
    Calls Try.prog 15 #[.pointer (some ⟨b, 0, none⟩), .agg a.cells.toArray] w fun e w' => (∃ E, e = .returned (.int .i64 E)) ∧ (∃ k, k ≤ 1 ∧ SW w' B b N A t k sq ss o) ∧ Kp (fun j => B ≤ j ∧ ¬ N j) w w' := by
  have h0 := h
  obtain ⟨R, v, k, hn, h1, h2, h3, h4, h5, h6, h7, h8, h9⟩ := h
  have hfoot : ∀ j, Foot b v.ca j → B ≤ j ∧ ¬ N j := fun j h => ⟨(k.foot h).1, fun e => hn j e (.inl h)⟩
  have hcl : v.cl = [] := List.eq_nil_of_length_eq_zero h7
  have hid' : a.id = v.id * 1000000 + v.tries := by rw [hid, h1, h5]; simp
  by_cases hs : v.state = 1
  · obtain ⟨g1, g2, g3, g4, g5⟩ := h9 hs
    by_cases he30 : a.e = 30
    · refine Calls.mono (heard_leader k a ⟨by omega, by omega⟩ ⟨by omega, by omega⟩ hs hid' he30 (by omega) (Nat.le_trans k.ge (Nat.le_of_lt (lt_of_block k.blk)))) ?_
      rintro e w' ⟨he, i, da, dc, R', ca', cc', hl, k', hk, hr', hmv⟩
      refine ⟨⟨_, he⟩, ⟨1, Nat.le_refl _, R', _, k', fun j hj ha => ?_, h1, h2, by simp [more], by simp [more], (show v.tries + 1 = _ by omega), h6, by simp [hcl], fun q hq => ?_, fun _ => ⟨g1, g2, g3, g4, g5⟩⟩, hk.mono (fun j _ h => hfoot j h)⟩
      · rcases ha with ha | ha
        · exact hn j hj (.inl (hmv.old ha (hN j hj)))
        · rcases hr' j ha with h | h
          · exact hn j hj (.inr h)
          · have := hN j hj; omega
      · rw [hcl] at hq
        simp at hq
        subst hq
        refine ⟨?_, g2, g3, g4, g5, fun e2 => ⟨?_, ?_⟩⟩
        · show v.id * 1000000 + (v.tries + 1) = _
          rw [h1, h5]; simp
        · show (if v.ord.kind = 2 then v.seq else 0) = _
          rw [g2, if_pos e2, h6]
        · show (if v.ord.kind = 2 then v.session else 0) = _
          rw [g2, if_pos e2, g1]
    · by_cases hw : a.e = 42 ∨ a.e = 37 ∨ a.e = 31 ∨ a.e = 32 ∨ a.e = 7
      · refine Calls.mono (heard_wait k a ⟨by omega, by omega⟩ hs hid' hw) ?_
        rintro e w' ⟨he, k', hk⟩
        exact ⟨⟨_, he⟩, ⟨0, by omega, R, _, k', hn, h1, h2, (show 0 ≤ v.pat by omega), (show v.pat ≤ 3 by omega), h5, h6, h7, h8, h9⟩, hk.mono (fun j _ (e : j = b) => hfoot j (.inl e))⟩
      · refine Calls.mono (heard_ends k a ⟨by omega, by omega⟩ hs hid' ⟨he30, fun e => hw (.inl e), fun e => hw (.inr (.inl e)), fun e => hw (.inr (.inr (.inl e))), fun e => hw (.inr (.inr (.inr (.inl e)))), fun e => hw (.inr (.inr (.inr (.inr e))))⟩ hr hrr hm) ?_
        rintro e w' ⟨he, na, new, nc, R', k', hnl, hcp, hk, hR⟩
        refine ⟨⟨_, he⟩, ⟨0, by omega, R', _, k', fun j hj ha => ?_, h1, h2, h3, h4, h5, h6, h7, h8, fun h => by simp [ended] at h⟩, hk.mono (fun j _ (e : j = b) => hfoot j (.inl e))⟩
        rcases ha with ha | ha
        · exact hn j hj (.inl ha)
        · rcases hR j ha with h | h
          · exact hn j hj (.inr h)
          · have := hN j hj; omega
  · exact Calls.mono (heard_none k a ⟨by omega, by omega⟩ (.inl hs)) fun e w' ⟨he, hk⟩ => ⟨⟨_, he⟩, ⟨0, by omega, h0.no hk⟩, hk.mono (fun _ _ h => h.elim)⟩
end Go.Proofs.Ytjhefbkigmamfaa
