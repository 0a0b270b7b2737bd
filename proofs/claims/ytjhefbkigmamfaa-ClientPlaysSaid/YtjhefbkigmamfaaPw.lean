/-
  A client and the document's: the same but for where their lists lie. No condition.
-/
import Derived.Test.YtjhefbkigmamfaaRo
import Derived.Test.YtjhefbkigmamfaaSq
import Derived.Test.YtjhefbkigmamfaaAnq
import Derived.Test.YtjhefbkigmamfaaOpn
namespace Go.Proofs.Ytjhefbkigmamfaa
open Go.ChangeShapes Go.WideShapes Go.ChangeAt Go.RowKit
set_option linter.unusedVariables false
set_option linter.unusedSimpArgs false

/-- A half of a step: what a method leaves. -/
structure Half (w w1 : World) (R R1 : Nat → Prop) (b : Nat) (a a1 : Option Addr) : Prop where
  kp : Kp (Foot b a) w w1
  r : ∀ j, R1 j → R j ∨ w.heap.size ≤ j
  m : Moved w a a1
theorem Half.same {w w1 : World} (hk : Kp (fun _ => False) w w1) (R : Nat → Prop) (b : Nat) (a : Option Addr) : Half w w1 R R b a a := ⟨hk.mono (fun _ _ h => h.elim), fun _ h => .inl h, Moved.same _ _⟩
theorem Half.self {w w1 : World} {b : Nat} (hk : Kp (fun j => j = b) w w1) (R : Nat → Prop) (a : Option Addr) : Half w w1 R R b a a := ⟨hk.mono (fun _ _ h => .inl h), fun _ h => .inl h, Moved.same _ _⟩
theorem Half.none {w w1 : World} {b : Nat} (hk : Kp (fun j => j = b) w w1) (R : Nat → Prop) (a : Option Addr) : Half w w1 R R b a none := ⟨hk.mono (fun _ _ h => .inl h), fun _ h => .inl h, Moved.none _ _⟩

/-- The same call. -/
def SameC (p q : CallV) : Prop := p.to = q.to ∧ p.id = q.id ∧ p.kind = q.kind ∧ p.session = q.session ∧ p.seq = q.seq ∧ p.from_ = q.from_ ∧ p.most = q.most ∧ p.dl = q.dl
structure SameV (v u : CV) : Prop where
  id : v.id = u.id
  pat : v.pat = u.pat
  at_ : v.at_ = u.at_
  sl : v.sl = u.sl
  session : v.session = u.session
  seq : v.seq = u.seq
  tries : v.tries = u.tries
  passed : v.passed = u.passed
  state : v.state = u.state
  ord : v.state ≠ 0 → v.ord.kind = u.ord.kind ∧ v.ord.from_ = u.ord.from_ ∧ v.ord.most = u.ord.most ∧ v.ord.dl = u.ord.dl
  ans : v.state = 2 → v.ans.id = u.ans.id ∧ v.ans.e = u.ans.e ∧ v.ans.session = u.ans.session ∧ v.ans.number = u.ans.number ∧ v.ans.leader = u.ans.leader ∧ SameR v.ans.rl u.ans.rl
  cl : v.cl.length = u.cl.length
  calls : ∀ (k : Nat) (p q : CallV), v.cl[k]? = some p → u.cl[k]? = some q → SameC p q
theorem same_next {v u : CV} (h : SameV v u) : nextAt v = nextAt u := by unfold nextAt; rw [h.at_, h.sl]
theorem calls_snoc {l1 l2 : List CallV} {p q : CallV} (hl : l1.length = l2.length) (h : ∀ (k : Nat) (p q : CallV), l1[k]? = some p → l2[k]? = some q → SameC p q) (hpq : SameC p q) : (l1 ++ [p]).length = (l2 ++ [q]).length ∧ ∀ (k : Nat) (x y : CallV), (l1 ++ [p])[k]? = some x → (l2 ++ [q])[k]? = some y → SameC x y := by
  refine ⟨by simp [hl], fun k x y hx hy => ?_⟩
  by_cases hk : k < l1.length
  · rw [List.getElem?_append_left hk] at hx
    rw [List.getElem?_append_left (by omega)] at hy
    exact h k x y hx hy
  · have hk2 : k = l1.length := by
      have := (List.getElem?_eq_some_iff.1 hx).1
      simp at this
      omega
    subst hk2
    rw [List.getElem?_append_right (Nat.le_refl _), Nat.sub_self] at hx
    rw [List.getElem?_append_right (by omega), hl, Nat.sub_self] at hy
    simp at hx hy
    subst hx hy
    exact hpq
/-- Behind a call more of both. -/
theorem same_more {v u : CV} (h : SameV v u) (hs : v.state = 1) (da da' ca ca' : Option Addr) (dc dc' cc cc' : Nat) :
    SameV { more v with ca := ca, cl := v.cl ++ [callOf (more v) da dc], cc := cc } { more u with ca := ca', cl := u.cl ++ [callOf (more u) da' dc'], cc := cc' } := by
  obtain ⟨o1, o2, o3, o4⟩ := h.ord (by rw [hs]; decide)
  have hc : SameC (callOf (more v) da dc) (callOf (more u) da' dc') := by
    refine ⟨?_, ?_, o1, ?_, ?_, o2, o3, o4⟩
    · show v.sl.getD v.at_ 0 = u.sl.getD u.at_ 0
      rw [h.sl, h.at_]
    · show v.id * 1000000 + (v.tries + 1) = u.id * 1000000 + (u.tries + 1)
      rw [h.id, h.tries]
    · show (if v.ord.kind = 2 then v.session else 0) = (if u.ord.kind = 2 then u.session else 0)
      rw [o1, h.session]
    · show (if v.ord.kind = 2 then v.seq else 0) = (if u.ord.kind = 2 then u.seq else 0)
      rw [o1, h.seq]
  have h2 := calls_snoc h.cl h.calls hc
  exact ⟨h.id, h.pat, h.at_, h.sl, h.session, h.seq, (show v.tries + 1 = u.tries + 1 by rw [h.tries]), rfl, h.state, h.ord, h.ans, h2.1, h2.2⟩
theorem same_at {v u : CV} (h : SameV v u) (i : Nat) : SameV { v with at_ := i } { u with at_ := i } :=
  ⟨h.id, h.pat, rfl, h.sl, h.session, h.seq, h.tries, h.passed, h.state, h.ord, h.ans, h.cl, h.calls⟩
theorem same_with {v u : CV} (h : SameV v u) (o o' : OrdV) (hk : o.kind = o'.kind ∧ o.from_ = o'.from_ ∧ o.most = o'.most ∧ o.dl = o'.dl) (a b : Option Addr) (c d : Nat) : SameV (withO v o a c) (withO u o' b d) :=
  ⟨h.id, h.pat, h.at_, h.sl, h.session, (show (if o.kind = 2 then v.seq + 1 else v.seq) = (if o'.kind = 2 then u.seq + 1 else u.seq) by rw [h.seq, hk.1]), h.tries, h.passed, rfl, fun _ => hk, fun e => absurd (show (1 : Int) = 2 from e) (by decide), h.cl, h.calls⟩
theorem same_doE {v u : CV} (h : SameV v u) (o o' : OrdV) (hk : o.kind = o'.kind ∧ o.from_ = o'.from_ ∧ o.most = o'.most ∧ o.dl = o'.dl) : doE v o = doE u o' := by
  obtain ⟨e1, e2, e3, e4⟩ := hk
  unfold doE
  rw [e1, e2, e3, e4, h.state, h.session]
theorem lead_uniq {v : CV} (hr : Rising v.sl) {x : Int} {i j : Nat} (h1 : LeadAt v x i) (h2 : LeadAt v x j) : i = j := by
  have mono : ∀ a b, a < b → b < v.sl.length → v.sl.getD a 0 < v.sl.getD b 0 := by
    intro a b hab
    induction b with
    | zero => omega
    | succ b ih =>
      intro hb
      have h := (hr (b + 1) hb).2.2 (by omega)
      rw [Nat.add_sub_cancel] at h
      by_cases e : a = b
      · rw [e]; exact h
      · have := ih (by omega) (by omega); omega
  have mem : ∀ k, k < v.sl.length → v.sl.getD k 0 ∈ v.sl := fun k hk => by
    rw [List.getD, List.getElem?_eq_getElem hk]
    exact List.getElem_mem hk
  rcases h1 with ⟨n1, e1⟩ | ⟨l1, e1⟩
  · rcases h2 with ⟨_, e2⟩ | ⟨l2, e2⟩
    · rw [e1, e2]
    · exact absurd (e2 ▸ mem j l2) n1
  · rcases h2 with ⟨n2, _⟩ | ⟨l2, e2⟩
    · exact absurd (e1 ▸ mem i l1) n2
    · rcases Nat.lt_trichotomy i j with h | h | h
      · have := mono i j h l2; omega
      · exact h
      · have := mono j i h l1; omega
theorem same_lead {v u : CV} (h : SameV v u) {x : Int} {i : Nat} (hl : LeadAt u x i) : LeadAt v x i := by
  unfold LeadAt at *
  rw [h.sl, same_next h]
  exact hl

/-- A client and the document's, of no common block; the blocks of N are not theirs; T: so many tries at the most. -/
structure PV (w : World) (B : Nat) (N R R' : Nat → Prop) (b rb T : Nat) (v u : CV) : Prop where
  c : Client w B R b v
  r : RC w B R' rb u
  s : SameV v u
  d : ∀ j, All R b v j → ¬ All R' rb u j
  n : ∀ j, N j → ¬ All R b v j ∧ ¬ All R' rb u j
  p0 : 0 ≤ v.passed
  p1 : v.passed ≤ v.pat
  t0 : 0 ≤ v.tries
  t1 : v.tries ≤ T
  q0 : 0 ≤ v.seq
  q1 : v.seq ≤ T
  l : v.cl.length ≤ T
  al : v.ans.rl.length ≤ 140737488355328
def PW (w : World) (B : Nat) (N : Nat → Prop) (b rb T : Nat) : Prop := ∃ R R' v u, PV w B N R R' b rb T v u
theorem PV.kp {w w' : World} {B : Nat} {N R R' : Nat → Prop} {b rb T : Nat} {v u : CV} (h : PV w B N R R' b rb T v u) {S : Nat → Prop} (hk : Kp S w w') (hn : ∀ j, S j → (N j ∨ w.heap.size ≤ j) ∧ B ≤ j) : PV w' B N R R' b rb T v u := by
  refine ⟨h.c.kp hk (fun j hj hs => ?_), h.r.kp hk (fun j hj hs => ?_) (fun j hs => (hn j hs).2), h.s, h.d, h.n, h.p0, h.p1, h.t0, h.t1, h.q0, h.q1, h.l, h.al⟩
  · have := (h.c.all hj).2
    rcases (hn j hs).1 with e | e
    · exact (h.n j e).1 hj
    · omega
  · have := (h.r.all hj).2
    rcases (hn j hs).1 with e | e
    · exact (h.n j e).2 hj
    · omega
theorem PV.no {w w' : World} {B : Nat} {N R R' : Nat → Prop} {b rb T : Nat} {v u : CV} (h : PV w B N R R' b rb T v u) (hk : Kp (fun _ => False) w w') : PV w' B N R R' b rb T v u := h.kp hk (fun _ h => h.elim)
theorem PV.other {w : World} {B : Nat} {N N' R R' : Nat → Prop} {b rb T : Nat} {v u : CV} (h : PV w B N R R' b rb T v u) (hn : ∀ j, N' j → N j ∨ w.heap.size ≤ j) : PV w B N' R R' b rb T v u :=
  ⟨h.c, h.r, h.s, h.d, fun j hj => by
    rcases hn j hj with e | e
    · exact h.n j e
    · exact ⟨fun a => by have := (h.c.all a).2; omega, fun a => by have := (h.r.all a).2; omega⟩, h.p0, h.p1, h.t0, h.t1, h.q0, h.q1, h.l, h.al⟩
theorem PW.kp {w w' : World} {B : Nat} {N : Nat → Prop} {b rb T : Nat} (h : PW w B N b rb T) {S : Nat → Prop} (hk : Kp S w w') (hn : ∀ j, S j → (N j ∨ w.heap.size ≤ j) ∧ B ≤ j) : PW w' B N b rb T := by
  obtain ⟨R, R', v, u, h⟩ := h
  exact ⟨R, R', v, u, h.kp hk hn⟩
theorem PW.no {w w' : World} {B : Nat} {N : Nat → Prop} {b rb T : Nat} (h : PW w B N b rb T) (hk : Kp (fun _ => False) w w') : PW w' B N b rb T := h.kp hk (fun _ h => h.elim)
theorem PW.other {w : World} {B : Nat} {N N' : Nat → Prop} {b rb T : Nat} (h : PW w B N b rb T) (hn : ∀ j, N' j → N j ∨ w.heap.size ≤ j) : PW w B N' b rb T := by
  obtain ⟨R, R', v, u, h⟩ := h
  exact ⟨R, R', v, u, h.other hn⟩
theorem PW.lt {w : World} {B : Nat} {N : Nat → Prop} {b rb T : Nat} (h : PW w B N b rb T) : B ≤ b ∧ b < w.heap.size ∧ B ≤ rb ∧ rb < w.heap.size ∧ b ≠ rb ∧ ¬ N b ∧ ¬ N rb := by
  obtain ⟨R, R', v, u, h⟩ := h
  exact ⟨h.c.ge, lt_of_block h.c.blk, h.r.ge, lt_of_block h.r.blk, fun e => h.d b (.inl (.inl rfl)) (.inl (.inl e)), fun hb => (h.n b hb).1 (.inl (.inl rfl)), fun hb => (h.n rb hb).2 (.inl (.inl rfl))⟩
theorem PW.up {w : World} {B : Nat} {N : Nat → Prop} {b rb T : Nat} (h : PW w B N b rb T) : PW w B N b rb (T + 1) := by
  obtain ⟨R, R', v, u, h⟩ := h
  exact ⟨R, R', v, u, h.c, h.r, h.s, h.d, h.n, h.p0, h.p1, h.t0, by have := h.t1; omega, h.q0, by have := h.q1; omega, by have := h.l; omega, h.al⟩

theorem half_all {w w1 : World} {R R1 : Nat → Prop} {b : Nat} {v v1 : CV} (h : Half w w1 R R1 b v.ca v1.ca) {j : Nat} (hj : All R1 b v1 j) (hs : j < w.heap.size) : All R b v j := by
  rcases hj with hj | hj
  · exact .inl (h.m.old hj hs)
  · rcases h.r j hj with e | e
    · exact .inr e
    · omega
/-- The document's client, behind the client's half. -/
theorem PV.mid {w w1 : World} {B : Nat} {N R R' R1 : Nat → Prop} {b rb T : Nat} {v u v1 : CV} (h : PV w B N R R' b rb T v u) (h1 : Half w w1 R R1 b v.ca v1.ca) : RC w1 B R' rb u :=
  h.r.kp h1.kp (fun j hj hf => h.d j (.inl hf) hj) (fun j hf => (h.c.foot hf).1)
/-- Both, behind both halves. -/
theorem PV.join {w w1 w2 : World} {B : Nat} {N R R' R1 R2 : Nat → Prop} {b rb T : Nat} {v u v1 u2 : CV} (h : PV w B N R R' b rb T v u) (hN : ∀ j, N j → j < w.heap.size) (k1 : Client w1 B R1 b v1) (h1 : Half w w1 R R1 b v.ca v1.ca) (k2 : RC w2 B R2 rb u2) (h2 : Half w1 w2 R' R2 rb u.ca u2.ca)
    (hs : SameV v1 u2) (hp : 0 ≤ v1.passed ∧ v1.passed ≤ v1.pat) (ht : 0 ≤ v1.tries ∧ v1.tries ≤ v.tries + 1) (hq : 0 ≤ v1.seq ∧ v1.seq ≤ v.seq + 1) (hl : v1.cl.length ≤ v.cl.length + 1) (ha : v1.ans.rl.length ≤ 140737488355328) :
    PW w2 B N b rb (T + 1) ∧ Kp (fun j => B ≤ j ∧ ¬ N j) w w2 := by
  have hs1 := h1.kp.size
  have key : ∀ j, All R1 b v1 j → ¬ Foot rb u.ca j := fun j hj hf => by
    have hlt := (h.r.foot hf).2
    exact h.d j (half_all h1 hj hlt) (.inl hf)
  have k1' := k1.kp h2.kp key
  have hd : ∀ j, All R1 b v1 j → ¬ All R2 rb u2 j := fun j hj hj2 => by
    have a1 := (k1.all hj).2
    have hj3 := half_all h2 hj2 a1
    have a3 := (h.r.all hj3).2
    exact h.d j (half_all h1 hj a3) hj3
  refine ⟨⟨R1, R2, v1, u2, k1', k2, hs, hd, fun j hj => ?_, hp.1, hp.2, ht.1, by have := h.t1; omega, hq.1, by have := h.q1; omega, by have := h.l; omega, ha⟩, ?_⟩
  · have hlt := hN j hj
    exact ⟨fun ha => (h.n j hj).1 (half_all h1 ha hlt), fun ha => (h.n j hj).2 (half_all h2 ha (by omega))⟩
  · exact (h1.kp.mono (fun j _ hf => ⟨(h.c.foot hf).1, fun hn => (h.n j hn).1 (.inl hf)⟩)).trans (h2.kp.mono (fun j _ hf => ⟨(h.r.foot hf).1, fun hn => (h.n j hn).2 (.inl hf)⟩))
end Go.Proofs.Ytjhefbkigmamfaa
