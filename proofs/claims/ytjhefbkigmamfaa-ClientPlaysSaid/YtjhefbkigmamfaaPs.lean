/-
  A call on a client and on the document's, one behind the other: they agree. Where the counts are few.
-/
import Derived.Test.YtjhefbkigmamfaaPw
namespace Go.Proofs.Ytjhefbkigmamfaa
open Go.ChangeShapes Go.WideShapes Go.ChangeAt Go.RowKit
set_option linter.unusedVariables false
set_option linter.unusedSimpArgs false

/-- The first call, of the client: then the second one, of the document's. -/
def Then (w w1 : World) (B : Nat) (N : Nat → Prop) (b rb T : Nat) (f : Nat) (args : Array Value) (P : Ending → World → Prop) : Prop :=
  Kp (fun j => B ≤ j ∧ ¬ N j) w w1 ∧ ∀ wz, Kp (fun _ => False) w1 wz → Calls Try.prog f args wz fun e w2 => P e w2 ∧ PW w2 B N b rb (T + 1) ∧ Kp (fun j => B ≤ j ∧ ¬ N j ∧ j < w.heap.size) wz w2
theorem half_kp {w w1 : World} {B : Nat} {N R R' R1 : Nat → Prop} {b rb T : Nat} {v u v1 : CV} (h : PV w B N R R' b rb T v u) (h1 : Half w w1 R R1 b v.ca v1.ca) : Kp (fun j => B ≤ j ∧ ¬ N j) w w1 :=
  h1.kp.mono (fun j _ hf => ⟨(h.c.foot hf).1, fun hn => (h.n j hn).1 (.inl hf)⟩)
theorem half_kp2 {w w1 w2 : World} {B : Nat} {N R R' R2 : Nat → Prop} {b rb T : Nat} {v u u2 : CV} (h : PV w B N R R' b rb T v u) (h2 : Half w1 w2 R' R2 rb u.ca u2.ca) : Kp (fun j => B ≤ j ∧ ¬ N j ∧ j < w.heap.size) w1 w2 :=
  h2.kp.mono (fun j _ hf => ⟨(h.r.foot hf).1, fun hn => (h.n j hn).2 (.inl hf), (h.r.foot hf).2⟩)
theorem Half.no {w w1 wz : World} {R R1 : Nat → Prop} {b : Nat} {a a1 : Option Addr} (h : Half w w1 R R1 b a a1) (hz : Kp (fun _ => False) w1 wz) : Half w wz R R1 b a a1 := ⟨h.kp.trans (hz.mono (fun _ _ h => h.elim)), h.r, h.m⟩
theorem few_of {z : Int} {T : Nat} (h0 : 0 ≤ z) (h1 : z ≤ T) (hT : T ≤ 1400000000000) : Few (z + 1) := ⟨by omega, by omega⟩

theorem do_pv {w : World} {B : Nat} {N R R' : Nat → Prop} {b rb T : Nat} {v u : CV} (h : PV w B N R R' b rb T v u) (hN : ∀ j, N j → j < w.heap.size) (hT : T ≤ 1400000000000) (o o' : OrdV) (hk : o.kind = o'.kind ∧ o.from_ = o'.from_ ∧ o.most = o'.most ∧ o.dl = o'.dl) (hr : Row w o.da (bytes o.dl)) (hrb : ∀ g, blockOf o.da = some g → g ≠ b) (hr' : Low w B o'.da (bytes o'.dl)) (hm : o.dl.length ≤ 140737488355328) :
    Calls Try.prog 12 #[.pointer (some ⟨b, 0, none⟩), .agg o.cells.toArray] w fun e w1 => ∃ E, e = .returned (.int .i64 E) ∧ Then w w1 B N b rb T 36 #[.pointer (some ⟨rb, 0, none⟩), .agg o'.cells.toArray] fun e _ => e = .returned (.int .i64 E) := by
  have hdo := same_doE h.s o o' hk
  have hBw : B ≤ w.heap.size := Nat.le_trans h.c.ge (Nat.le_of_lt (lt_of_block h.c.blk))
  have e1 := h.t0
  have e2 := h.t1
  have e3 := h.q0
  have e4 := h.q1
  have e5 := h.l
  have e6 := h.s.tries
  have e7 := h.s.seq
  have e8 := h.s.cl
  by_cases hE : doE v o = 0
  · refine Calls.mono (do_yes h.c o hE hr hrb hm (few_of h.q0 h.q1 hT) h.q0 (few_of h.t0 h.t1 hT) h.t0 (by omega) hBw) ?_
    rintro e w1 ⟨he, oa, oc, da, dc, R1, ca, cc, k1, hk1, hr1, hm1⟩
    have h1 : Half w w1 R R1 b v.ca ({ more (withO v o oa oc) with ca := ca, cl := v.cl ++ [callOf (more (withO v o oa oc)) da dc], cc := cc } : CV).ca := ⟨hk1, hr1, hm1⟩
    refine ⟨0, he, half_kp h h1, fun wz hz => ?_⟩
    have k1z := k1.no hz
    replace h1 := h1.no hz
    have hs1 := h1.kp.size
    refine Calls.mono (rdo_yes (h.mid h1) o' (hdo ▸ hE) (hr'.kp h1.kp (fun j hf => (h.c.foot hf).1)).row (by rw [← hk.2.2.2]; exact hm) (few_of (by omega) (by omega) hT) (by omega) (few_of (by omega) (by omega) hT) (by omega) (by omega) (by omega)) ?_
    rintro e w2 ⟨he2, oa', oc', da', dc', R2, ca', cc', k2, hk2, hr2, hm2⟩
    have h2 : Half wz w2 R' R2 rb u.ca ({ more (withO u o' oa' oc') with ca := ca', cl := u.cl ++ [callOf (more (withO u o' oa' oc')) da' dc'], cc := cc' } : CV).ca := ⟨hk2, hr2, hm2⟩
    have hj := h.join hN k1z h1 k2 h2 (same_more (same_with h.s o o' hk oa oa' oc oc') rfl da da' ca ca' dc dc' cc cc') ⟨by simp [more], by have := h.c.pat1; simp [more, withO]; omega⟩ ⟨by show 0 ≤ v.tries + 1; omega, Int.le_refl _⟩ ⟨by show 0 ≤ (if o.kind = 2 then v.seq + 1 else v.seq); split <;> omega, by show (if o.kind = 2 then v.seq + 1 else v.seq) ≤ _; split <;> omega⟩ (by simp) h.al
    exact ⟨he2, hj.1, half_kp2 h h2⟩
  · refine Calls.mono (do_no h.c o hE) ?_
    rintro e w1 ⟨he, hk1⟩
    refine ⟨_, he, hk1.mono (fun _ _ h => h.elim), fun wz hz => ?_⟩
    replace hk1 := hk1.trans hz
    refine Calls.mono (rdo_no (h.r.no hk1) o' (by rw [← hdo]; exact hE)) ?_
    rintro e w2 ⟨he2, hk2⟩
    exact ⟨by rw [he2, hdo], (PW.up ⟨R, R', v, u, (h.no hk1).no hk2⟩), hk2.mono (fun _ _ h => h.elim)⟩
theorem tick_pv {w : World} {B : Nat} {N R R' : Nat → Prop} {b rb T : Nat} {v u : CV} (h : PV w B N R R' b rb T v u) (hN : ∀ j, N j → j < w.heap.size) (hT : T ≤ 1400000000000) :
    Calls Try.prog 13 #[.pointer (some ⟨b, 0, none⟩)] w fun e w1 => e = .returned (.int .i64 0) ∧ Then w w1 B N b rb T 38 #[.pointer (some ⟨rb, 0, none⟩)] fun e _ => e = .returned (.tuple #[]) := by
  have hBw : B ≤ w.heap.size := Nat.le_trans h.c.ge (Nat.le_of_lt (lt_of_block h.c.blk))
  have e1 := h.t0
  have e2 := h.t1
  have e5 := h.l
  have e6 := h.s.tries
  have e8 := h.s.cl
  have e9 := h.s.passed
  have e10 := h.s.pat
  have p0 := h.p0
  have p1 := h.p1
  by_cases hs : v.state = 1
  · have hsu : u.state = 1 := by rw [← h.s.state]; exact hs
    by_cases hlt : v.passed + 1 < v.pat
    · refine Calls.mono (tick_wait h.c hs h.p0 hlt) ?_
      rintro e w1 ⟨he, k1, hk1⟩
      have h1 : Half w w1 R R b v.ca ({ v with passed := v.passed + 1 } : CV).ca := Half.self hk1 R v.ca
      refine ⟨he, half_kp h h1, fun wz hz => ?_⟩
      have k1z := k1.no hz
      replace h1 := h1.no hz
      have hs1 := h1.kp.size
      refine Calls.mono (rtick_wait (h.mid h1) hsu (by omega) (by omega)) ?_
      rintro e w2 ⟨he2, k2, hk2⟩
      have h2 : Half wz w2 R' R' rb u.ca ({ u with passed := u.passed + 1 } : CV).ca := Half.self hk2 R' u.ca
      have hj := h.join hN k1z h1 k2 h2 ⟨h.s.id, h.s.pat, h.s.at_, h.s.sl, h.s.session, h.s.seq, h.s.tries, (show v.passed + 1 = u.passed + 1 by omega), h.s.state, h.s.ord, h.s.ans, h.s.cl, h.s.calls⟩ ⟨(show 0 ≤ v.passed + 1 by omega), (show v.passed + 1 ≤ v.pat by omega)⟩ ⟨h.t0, (show v.tries ≤ v.tries + 1 by omega)⟩ ⟨h.q0, (show v.seq ≤ v.seq + 1 by omega)⟩ (Nat.le_succ _) h.al
      exact ⟨he2, hj.1, half_kp2 h h2⟩
    · refine Calls.mono (tick_ask h.c hs h.p0 h.p1 (by omega) (few_of h.t0 h.t1 hT) h.t0 (by omega) hBw) ?_
      rintro e w1 ⟨he, da, dc, R1, ca, cc, k1, hk1, hr1, hm1⟩
      have h1 : Half w w1 R R1 b v.ca ({ more { v with at_ := nextAt v } with ca := ca, cl := v.cl ++ [callOf (more { v with at_ := nextAt v }) da dc], cc := cc } : CV).ca := ⟨hk1, hr1, hm1⟩
      refine ⟨he, half_kp h h1, fun wz hz => ?_⟩
      have k1z := k1.no hz
      replace h1 := h1.no hz
      have hs1 := h1.kp.size
      refine Calls.mono (rtick_ask (h.mid h1) hsu (by omega) (by omega) (by omega) (few_of (by omega) (by omega) hT) (by omega) (by omega) (by omega)) ?_
      rintro e w2 ⟨he2, da', dc', R2, ca', cc', k2, hk2, hr2, hm2⟩
      have h2 : Half wz w2 R' R2 rb u.ca ({ more { u with at_ := nextAt u } with ca := ca', cl := u.cl ++ [callOf (more { u with at_ := nextAt u }) da' dc'], cc := cc' } : CV).ca := ⟨hk2, hr2, hm2⟩
      have hsa : SameV { v with at_ := nextAt v } { u with at_ := nextAt u } := by rw [← same_next h.s]; exact same_at h.s _
      have hj := h.join hN k1z h1 k2 h2 (same_more hsa hs da da' ca ca' dc dc' cc cc') ⟨by simp [more], by have := h.c.pat1; simp [more]; omega⟩ ⟨by show 0 ≤ v.tries + 1; omega, Int.le_refl _⟩ ⟨h.q0, (show v.seq ≤ v.seq + 1 by omega)⟩ (by simp) h.al
      exact ⟨he2, hj.1, half_kp2 h h2⟩
  · have hsu : u.state ≠ 1 := by rw [← h.s.state]; exact hs
    refine Calls.mono (tick_idle h.c hs) ?_
    rintro e w1 ⟨he, rfl⟩
    refine ⟨he, Kp.refl _ _, fun wz hz => Calls.mono (rtick_idle (h.r.no hz) hsu) ?_⟩
    rintro e w2 ⟨he2, rfl⟩
    exact ⟨he2, PW.up ⟨R, R', v, u, h.no hz⟩, Kp.refl _ _⟩
theorem heard_pv {w : World} {B : Nat} {N R R' : Nat → Prop} {b rb T : Nat} {v u : CV} (h : PV w B N R R' b rb T v u) (hN : ∀ j, N j → j < w.heap.size) (hT : T ≤ 1400000000000) (a a' : AnsV) (hq : a.id = a'.id ∧ a.e = a'.e ∧ a.session = a'.session ∧ a.number = a'.number ∧ a.leader = a'.leader ∧ SameR a.rl a'.rl)
    (hr : Row w a.ra (a.rl.map RecV.val)) (hrr : ∀ r ∈ a.rl, Row w r.a (bytes r.d) ∧ r.d.length ≤ 140737488355328) (hm : a.rl.length * 24 ≤ 140737488355328) (hr' : Low w B a'.ra (a'.rl.map RecV.val)) (hrr' : ∀ r ∈ a'.rl, Low w B r.a (bytes r.d)) :
    Calls Try.prog 15 #[.pointer (some ⟨b, 0, none⟩), .agg a.cells.toArray] w fun e w1 => ∃ E, e = .returned (.int .i64 E) ∧ Then w w1 B N b rb T 37 #[.pointer (some ⟨rb, 0, none⟩), .agg a'.rcells.toArray] fun e _ => e = .returned (.int .i64 E) := by
  obtain ⟨q1, q2, q3, q4, q5, q6⟩ := hq
  have hBw : B ≤ w.heap.size := Nat.le_trans h.c.ge (Nat.le_of_lt (lt_of_block h.c.blk))
  have e1 := h.t0
  have e2 := h.t1
  have e5 := h.l
  have e6 := h.s.tries
  have e8 := h.s.cl
  have e9 := h.s.id
  have f0 : Few v.tries := ⟨by omega, by omega⟩
  have f1 : Few u.tries := ⟨by omega, by omega⟩
  by_cases hn : v.state ≠ 1 ∨ a.id ≠ v.id * 1000000 + v.tries
  · refine Calls.mono (heard_none h.c a f0 hn) ?_
    rintro e w1 ⟨he, hk1⟩
    refine ⟨_, he, hk1.mono (fun _ _ h => h.elim), fun wz hz => ?_⟩
    replace hk1 := hk1.trans hz
    refine Calls.mono (rheard_none (h.r.no hk1) a' f1 (by rw [← h.s.state, ← q1, ← e9, ← e6]; exact hn)) ?_
    rintro e w2 ⟨he2, hk2⟩
    exact ⟨he2, (PW.up ⟨R, R', v, u, (h.no hk1).no hk2⟩), hk2.mono (fun _ _ h => h.elim)⟩
  · have hs : v.state = 1 := Classical.byContradiction fun e => hn (.inl e)
    have hi : a.id = v.id * 1000000 + v.tries := Classical.byContradiction fun e => hn (.inr e)
    have hsu : u.state = 1 := by rw [← h.s.state]; exact hs
    have hiu : a'.id = u.id * 1000000 + u.tries := by rw [← q1, ← e9, ← e6]; exact hi
    by_cases he30 : a.e = 30
    · refine Calls.mono (heard_leader h.c a f0 (few_of h.t0 h.t1 hT) hs hi he30 (by omega) hBw) ?_
      rintro e w1 ⟨he, i, da, dc, R1, ca, cc, hl1, k1, hk1, hr1, hm1⟩
      have h1 : Half w w1 R R1 b v.ca ({ more { v with at_ := i } with ca := ca, cl := v.cl ++ [callOf (more { v with at_ := i }) da dc], cc := cc } : CV).ca := ⟨hk1, hr1, hm1⟩
      refine ⟨_, he, half_kp h h1, fun wz hz => ?_⟩
      have k1z := k1.no hz
      replace h1 := h1.no hz
      have hs1 := h1.kp.size
      refine Calls.mono (rheard_leader (h.mid h1) a' f1 (few_of (by omega) (by omega) hT) hsu hiu (by rw [← q2]; exact he30) (by omega) (by omega)) ?_
      rintro e w2 ⟨he2, i', da', dc', R2, ca', cc', hl2, k2, hk2, hr2, hm2⟩
      have h2 : Half wz w2 R' R2 rb u.ca ({ more { u with at_ := i' } with ca := ca', cl := u.cl ++ [callOf (more { u with at_ := i' }) da' dc'], cc := cc' } : CV).ca := ⟨hk2, hr2, hm2⟩
      rw [← q5] at hl2
      obtain rfl := lead_uniq h.c.rs hl1 (same_lead h.s hl2)
      have hj := h.join hN k1z h1 k2 h2 (same_more (same_at h.s i) hs da da' ca ca' dc dc' cc cc') ⟨by simp [more], by have := h.c.pat1; simp [more]; omega⟩ ⟨by show 0 ≤ v.tries + 1; omega, Int.le_refl _⟩ ⟨h.q0, (show v.seq ≤ v.seq + 1 by omega)⟩ (by simp) h.al
      exact ⟨he2, hj.1, half_kp2 h h2⟩
    · by_cases hw : a.e = 42 ∨ a.e = 37 ∨ a.e = 31 ∨ a.e = 32 ∨ a.e = 7
      · refine Calls.mono (heard_wait h.c a f0 hs hi hw) ?_
        rintro e w1 ⟨he, k1, hk1⟩
        have h1 : Half w w1 R R b v.ca ({ v with passed := v.pat } : CV).ca := Half.self hk1 R v.ca
        refine ⟨_, he, half_kp h h1, fun wz hz => ?_⟩
        have k1z := k1.no hz
        replace h1 := h1.no hz
        have hs1 := h1.kp.size
        refine Calls.mono (rheard_wait (h.mid h1) a' f1 hsu hiu (by rw [← q2]; exact hw)) ?_
        rintro e w2 ⟨he2, k2, hk2⟩
        have h2 : Half wz w2 R' R' rb u.ca ({ u with passed := u.pat } : CV).ca := Half.self hk2 R' u.ca
        have hpt := h.c.pat1
        have hj := h.join hN k1z h1 k2 h2 ⟨h.s.id, h.s.pat, h.s.at_, h.s.sl, h.s.session, h.s.seq, h.s.tries, h.s.pat, h.s.state, h.s.ord, h.s.ans, h.s.cl, h.s.calls⟩ ⟨(show 0 ≤ v.pat by omega), Int.le_refl _⟩ ⟨h.t0, (show v.tries ≤ v.tries + 1 by omega)⟩ ⟨h.q0, (show v.seq ≤ v.seq + 1 by omega)⟩ (Nat.le_succ _) h.al
        exact ⟨he2, hj.1, half_kp2 h h2⟩
      · have hen : Ends a.e := ⟨he30, fun e => hw (.inl e), fun e => hw (.inr (.inl e)), fun e => hw (.inr (.inr (.inl e))), fun e => hw (.inr (.inr (.inr (.inl e)))), fun e => hw (.inr (.inr (.inr (.inr e))))⟩
        refine Calls.mono (heard_ends h.c a f0 hs hi hen hr hrr hm) ?_
        rintro e w1 ⟨he, na, new, nc, R1, k1, hnl, hcp, hk1, hR1⟩
        have h1 : Half w w1 R R1 b v.ca (ended v a na new nc).ca := ⟨hk1.mono (fun _ _ e => .inl e), hR1, Moved.same _ _⟩
        refine ⟨_, he, half_kp h h1, fun wz hz => ?_⟩
        have k1z := k1.no hz
        replace h1 := h1.no hz
        have hs1 := h1.kp.size
        refine Calls.mono (rheard_ends (h.mid h1) a' f1 hsu hiu (by rw [← q2]; exact hen) (hr'.kp h1.kp (fun j hf => (h.c.foot hf).1)) (fun r hr => (hrr' r hr).kp h1.kp (fun j hf => (h.c.foot hf).1))) ?_
        rintro e w2 ⟨he2, k2, hk2⟩
        have h2 : Half wz w2 R' R' rb u.ca (rended u a').ca := Half.self hk2 R' u.ca
        have hsr : SameR new a'.rl := ⟨by rw [hnl]; exact q6.1, fun k p q hp hq => by
          obtain ⟨r0, hr0, hd⟩ := hcp.same k p hp
          rw [hd]
          exact q6.2 k r0 q hr0 hq⟩
        have hse : (ended v a na new nc).session = (rended u a').session := by
          show (if v.ord.kind = 1 ∧ a.e = 0 then a.session else v.session) = (if u.ord.kind = 1 ∧ a'.e = 0 then a'.session else u.session)
          rw [(h.s.ord (by rw [hs]; decide)).1, q2, q3, h.s.session]
        have hj := h.join hN k1z h1 k2 h2 ⟨h.s.id, h.s.pat, h.s.at_, h.s.sl, hse, h.s.seq, h.s.tries, h.s.passed, rfl, fun _ => h.s.ord (by rw [hs]; decide), fun _ => ⟨q1, q2, q3, q4, q5, hsr⟩, h.s.cl, h.s.calls⟩ ⟨h.p0, h.p1⟩ ⟨h.t0, (show v.tries ≤ v.tries + 1 by omega)⟩ ⟨h.q0, (show v.seq ≤ v.seq + 1 by omega)⟩ (Nat.le_succ _) (by show new.length ≤ _; omega)
        exact ⟨he2, hj.1, half_kp2 h h2⟩
theorem calls_pv {w : World} {B : Nat} {N R R' : Nat → Prop} {b rb T : Nat} {v u : CV} (h : PV w B N R R' b rb T v u) (hN : ∀ j, N j → j < w.heap.size) (hT : T ≤ 1400000000000) :
    Calls Try.prog 14 #[.pointer (some ⟨b, 0, none⟩)] w fun e w1 => ∃ a l c, e = .returned (.slice a l.length c) ∧ l.length ≤ T ∧ Then w w1 B N b rb T 39 #[.pointer (some ⟨rb, 0, none⟩)] fun e w2 => ∃ a' l' c', e = .returned (.slice a' l'.length c') ∧ l.length = l'.length ∧ CallsAt w2 a l ∧ CallsAt w2 a' l' ∧ ∀ (k : Nat) (p q : CallV), l[k]? = some p → l'[k]? = some q → SameC p q ∧ Row w2 p.da (bytes p.dl) ∧ Row w2 q.da (bytes q.dl) := by
  refine Calls.mono (calls_any h.c) ?_
  rintro e w1 ⟨he, k1, hk1⟩
  have h1 : Half w w1 R R b v.ca ({ v with ca := none, cl := [], cc := 0 } : CV).ca := Half.none hk1 R v.ca
  refine ⟨_, _, _, he, h.l, half_kp h h1, fun wz hz => ?_⟩
  have k1z := k1.no hz
  replace h1 := h1.no hz
  refine Calls.mono (rcalls_any (h.mid h1)) ?_
  rintro e w2 ⟨he2, k2, hk2⟩
  have h2 : Half wz w2 R' R' rb u.ca ({ u with ca := none, cl := [], cc := 0 } : CV).ca := Half.none hk2 R' u.ca
  have hj := h.join hN k1z h1 k2 h2 ⟨h.s.id, h.s.pat, h.s.at_, h.s.sl, h.s.session, h.s.seq, h.s.tries, h.s.passed, h.s.state, h.s.ord, h.s.ans, rfl, fun k p q hp => by cases hp⟩ ⟨h.p0, h.p1⟩ ⟨h.t0, (show v.tries ≤ v.tries + 1 by omega)⟩ ⟨h.q0, (show v.seq ≤ v.seq + 1 by omega)⟩ (Nat.zero_le _) h.al
  refine ⟨⟨_, _, _, he2, h.s.cl, ?_, ?_, fun k p q hp hq => ⟨h.s.calls k p q hp hq, ?_, ?_⟩⟩, hj.1, half_kp2 h h2⟩
  · exact ((h.c.list.kp hk1 (fun g hg e => h.c.ne (e ▸ hg))).kp hz (fun _ _ h => h)).kp hk2 (fun g hg e => h.d g (.inl (.inr hg.symm)) (.inl (.inl e)))
  · have hrl : CallsAt wz u.ca u.cl := by
      intro k q hq
      have hown := (h.mid h1).own
      have key : ∀ j x, q.cells[j]? = some x → (flat8 u.cl)[k * 8 + j]? = some x := fun j x hx => by
        rw [flat8_get u.cl k q j hq (by have := (List.getElem?_eq_some_iff.1 hx).1; simpa [CallV.cells] using this)]
        exact hx
      obtain ⟨g, hg, _⟩ := Owns.cell hown (key 0 _ rfl)
      refine ⟨g, hg, fun j x hx => ?_⟩
      obtain ⟨g', hg', hc⟩ := Owns.cell hown (key j x hx)
      rw [hg] at hg'
      cases hg'
      exact hc
    exact hrl.kp hk2 (fun g hg e => h.r.ne (e ▸ hg))
  · have hp2 := h.c.dat p (List.mem_of_getElem? hp)
    exact ((hp2.1.kp hk1 (fun g hg e => h.c.dis b (.inl rfl) (e ▸ hp2.2 g hg))).no hz).kp hk2 (fun g hg e => h.d g (.inr (hp2.2 g hg)) (.inl (.inl e)))
  · have hq2 := (h.mid h1).dat q (List.mem_of_getElem? hq)
    exact hq2.1.kp hk2 (fun g hg e => h.r.dis rb (.inl rfl) (e ▸ hq2.2 g hg))
/-- What both tell of an order that ended. -/
def Told (w2 : World) (o o' : OrdV) (x y : AnsV) : Prop := (o.kind = o'.kind ∧ o.from_ = o'.from_ ∧ o.most = o'.most ∧ o.dl = o'.dl) ∧ Row w2 o.da (bytes o.dl) ∧ Row w2 o'.da (bytes o'.dl) ∧
  (x.id = y.id ∧ x.e = y.e ∧ x.session = y.session ∧ x.number = y.number ∧ x.leader = y.leader ∧ SameR x.rl y.rl) ∧ Row w2 x.ra (x.rl.map RecV.val) ∧ Row w2 y.ra (y.rl.map RecV.val) ∧ (∀ r ∈ x.rl, Row w2 r.a (bytes r.d)) ∧ (∀ r ∈ y.rl, Row w2 r.a (bytes r.d)) ∧ x.rl.length ≤ 140737488355328
theorem done_pv {w : World} {B : Nat} {N R R' : Nat → Prop} {b rb T : Nat} {v u : CV} (h : PV w B N R R' b rb T v u) (hN : ∀ j, N j → j < w.heap.size) (hT : T ≤ 1400000000000) :
    Calls Try.prog 18 #[.pointer (some ⟨b, 0, none⟩)] w fun e w1 => ∃ o x t, e = .returned (.tuple #[.agg (OrdV.cells o).toArray, .agg (AnsV.cells x).toArray, .bool t]) ∧ Then w w1 B N b rb T 41 #[.pointer (some ⟨rb, 0, none⟩)] fun e w2 => ∃ o' y, e = .returned (.tuple #[.agg (OrdV.cells o').toArray, .agg (AnsV.rcells y).toArray, .bool t]) ∧ Told w2 o o' x y := by
  by_cases hs : v.state = 2
  · have hsu : u.state = 2 := by rw [← h.s.state]; exact hs
    refine Calls.mono (done_yes h.c hs) ?_
    rintro e w1 ⟨he, k1, hk1⟩
    have h1 : Half w w1 R R b v.ca (told v).ca := Half.self hk1 R v.ca
    refine ⟨_, _, _, he, half_kp h h1, fun wz hz => ?_⟩
    have k1z := k1.no hz
    replace h1 := h1.no hz
    refine Calls.mono (rdone_yes (h.mid h1) hsu) ?_
    rintro e w2 ⟨he2, k2, hk2⟩
    have h2 : Half wz w2 R' R' rb u.ca ({ u with state := 0 } : CV).ca := Half.self hk2 R' u.ca
    have hj := h.join hN k1z h1 k2 h2 ⟨h.s.id, h.s.pat, h.s.at_, h.s.sl, h.s.session, h.s.seq, h.s.tries, h.s.passed, rfl, fun e => absurd rfl e, fun e => absurd (show (0 : Int) = 2 from e) (by decide), h.s.cl, h.s.calls⟩ ⟨h.p0, h.p1⟩ ⟨h.t0, (show v.tries ≤ v.tries + 1 by omega)⟩ ⟨h.q0, (show v.seq ≤ v.seq + 1 by omega)⟩ (Nat.le_succ _) (Nat.zero_le _)
    have hb1 : ∀ g, R g → ¬ g = b := fun g hg e => h.c.dis b (.inl rfl) (e ▸ hg)
    have hb2 : ∀ g, R g → ¬ g = rb := fun g hg e => h.d g (.inr hg) (.inl (.inl e))
    have hb3 : ∀ g, R' g → ¬ g = rb := fun g hg e => h.r.dis rb (.inl rfl) (e ▸ hg)
    have hBr : ∀ j, j = rb → B ≤ j := fun j e => e ▸ h.r.ge
    have hm := h.mid h1
    refine ⟨⟨_, _, he2, h.s.ord (by rw [hs]; decide), ?_, ?_, h.s.ans hs, ?_, ?_, ?_, ?_, h.al⟩, hj.1, half_kp2 h h2⟩
    · exact ((h.c.ord.kp hk1 (fun g hg => hb1 g (h.c.ordR g hg))).no hz).kp hk2 (fun g hg => hb2 g (h.c.ordR g hg))
    · exact hm.ord.kp hk2 (fun g hg => hb3 g (hm.ordR g hg))
    · exact ((h.c.ans.kp hk1 (fun g hg => hb1 g (h.c.ansR g hg))).no hz).kp hk2 (fun g hg => hb2 g (h.c.ansR g hg))
    · exact (hm.ans.kp hk2 hBr).row
    · exact fun r hr => (((h.c.rec_ r hr).1.kp hk1 (fun g hg => hb1 g ((h.c.rec_ r hr).2 g hg))).no hz).kp hk2 (fun g hg => hb2 g ((h.c.rec_ r hr).2 g hg))
    · exact fun r hr => ((hm.rec_ r hr).kp hk2 hBr).row
  · have hsu : u.state ≠ 2 := by rw [← h.s.state]; exact hs
    refine Calls.mono (done_no h.c hs) ?_
    rintro e w1 ⟨he, hk1⟩
    refine ⟨ord0, ans0, false, he, hk1.mono (fun _ _ h => h.elim), fun wz hz => ?_⟩
    replace hk1 := hk1.trans hz
    refine Calls.mono (rdone_no (h.r.no hk1) hsu) ?_
    rintro e w2 ⟨he2, hk2⟩
    exact ⟨⟨ord0, ans0, he2, ⟨rfl, rfl, rfl, rfl⟩, Row.nil _ _, Row.nil _ _, ⟨rfl, rfl, rfl, rfl, rfl, rfl, fun k p q hp => by cases hp⟩, Row.nil _ _, Row.nil _ _, (fun r hr => by cases hr), (fun r hr => by cases hr), Nat.zero_le _⟩, PW.up ⟨R, R', v, u, (h.no hk1).no hk2⟩, hk2.mono (fun _ _ h => h.elim)⟩
end Go.Proofs.Ytjhefbkigmamfaa
