/-
  The document's client in memory: its block, its servers, its order, its answer, its calls. No condition.
-/
import Derived.Test.YtjhefbkigmamfaaSw
namespace Go.Proofs.Ytjhefbkigmamfaa
open Go.RowKit
set_option linter.unusedVariables false

/-- A list's cells, in blocks below B. -/
def Low (w : World) (B : Nat) (a : Option Addr) (vs : List Value) : Prop := ∀ i v, vs[i]? = some v → ∃ b off, a = some ⟨b, off, none⟩ ∧ b < B ∧ w.cell? ⟨b, off + i, none⟩ = some v
theorem Low.row {w : World} {B : Nat} {a : Option Addr} {vs : List Value} (h : Low w B a vs) : Row w a vs := fun i v hv => by
  obtain ⟨b, off, e, _, hc⟩ := h i v hv
  exact ⟨b, off, e, hc⟩
theorem Low.kp {w w' : World} {B : Nat} {a : Option Addr} {vs : List Value} (h : Low w B a vs) {S : Nat → Prop} (hk : Kp S w w') (hS : ∀ j, S j → B ≤ j) : Low w' B a vs := fun i v hv => by
  obtain ⟨b, off, e, hb, hc⟩ := h i v hv
  exact ⟨b, off, e, hb, (hk.cell (p := ⟨b, off + i, none⟩) (World.block_lt_of_cell? w _ hc) (fun s => by have := hS b s; omega)).trans hc⟩
theorem Low.nil (w : World) (B : Nat) (a : Option Addr) : Low w B a [] := fun i v hv => by cases hv
theorem Row.low {w : World} {a : Option Addr} {vs : List Value} (h : Row w a vs) : Low w w.heap.size a vs := fun i v hv => by
  obtain ⟨b, off, e, hc⟩ := h i v hv
  exact ⟨b, off, e, World.block_lt_of_cell? (a := ⟨b, off + i, none⟩) w hc, hc⟩

/-- The cells of the document's answer, and of its client. -/
def AnsV.rcells (o : AnsV) : List Value := [.int .i64 o.id, .int .i64 o.e, .int .i64 o.session, .int .i64 o.number, .int .i64 o.leader, .slice o.ra o.rl.length o.rc]
def CV.rcells (v : CV) : Array Value := #[.int .i64 v.id, .int .i64 v.pat, .int .i64 v.at_, .int .i64 v.session, .int .i64 v.seq, .int .i64 v.tries, .int .i64 v.passed, .slice v.sa v.sl.length v.sc, .int .i64 v.state,
  .int .i64 v.ord.kind, .int .i64 v.ord.from_, .int .i64 v.ord.most, .slice v.ord.da v.ord.dl.length v.ord.dc,
  .int .i64 v.ans.id, .int .i64 v.ans.e, .int .i64 v.ans.session, .int .i64 v.ans.number, .int .i64 v.ans.leader, .slice v.ans.ra v.ans.rl.length v.ans.rc, .slice v.ca v.cl.length v.cc]

/-- A client at block b, whose other blocks, R, are only read. -/
structure RC (w : World) (B : Nat) (R : Nat → Prop) (b : Nat) (v : CV) : Prop where
  blk : w.heap[b]? = some (.cells v.rcells 76 (0, 0))
  ge : B ≤ b
  srv : Row w v.sa (ints v.sl)
  srvR : In R v.sa
  one : 1 ≤ v.sl.length
  seven : v.sl.length ≤ 7
  at_ : v.at_ < v.sl.length
  id1 : 1 ≤ v.id
  id2 : v.id ≤ 1000
  pat1 : 1 ≤ v.pat
  pat2 : v.pat ≤ 1000
  ord : Row w v.ord.da (bytes v.ord.dl)
  ordR : In R v.ord.da
  ordL : v.ord.dl.length ≤ 140737488355328
  ans : Low w B v.ans.ra (v.ans.rl.map RecV.val)
  rec_ : ∀ r ∈ v.ans.rl, Low w B r.a (bytes r.d)
  own : Owns w B 82 8 v.ca v.cl.length v.cc (flat8 v.cl)
  dat : ∀ q ∈ v.cl, Row w q.da (bytes q.dl) ∧ In R q.da
  dis : ∀ j, Foot b v.ca j → ¬ R j
  lt : ∀ j, R j → B ≤ j ∧ j < w.heap.size
theorem RC.foot {w : World} {B : Nat} {R : Nat → Prop} {b : Nat} {v : CV} (k : RC w B R b v) {j : Nat} (h : Foot b v.ca j) : B ≤ j ∧ j < w.heap.size :=
  h.elim (fun e => by rw [e]; exact ⟨k.ge, lt_of_block k.blk⟩) (fun e => k.own.from e.symm)
theorem RC.all {w : World} {B : Nat} {R : Nat → Prop} {b : Nat} {v : CV} (k : RC w B R b v) {j : Nat} (h : All R b v j) : B ≤ j ∧ j < w.heap.size := h.elim k.foot (k.lt j)
theorem RC.kp {w w' : World} {B : Nat} {R : Nat → Prop} {b : Nat} {v : CV} (k : RC w B R b v) {S : Nat → Prop} (hk : Kp S w w') (hn : ∀ j, All R b v j → ¬ S j) (hS : ∀ j, S j → B ≤ j) : RC w' B R b v :=
  ⟨hk.heap k.blk (hn b (.inl (.inl rfl))), k.ge, k.srv.kp hk (fun g hg => hn g (.inr (k.srvR g hg))), k.srvR, k.one, k.seven, k.at_, k.id1, k.id2, k.pat1, k.pat2, k.ord.kp hk (fun g hg => hn g (.inr (k.ordR g hg))), k.ordR, k.ordL, k.ans.kp hk hS,
    fun r hr => (k.rec_ r hr).kp hk hS, k.own.kp hk (fun g hg => hn g (.inl (.inr hg.symm))), fun q hq => ⟨(k.dat q hq).1.kp hk (fun g hg => hn g (.inr ((k.dat q hq).2 g hg))), (k.dat q hq).2⟩, k.dis,
    fun j hj => ⟨(k.lt j hj).1, Nat.lt_of_lt_of_le (k.lt j hj).2 hk.size⟩⟩
theorem RC.no {w w' : World} {B : Nat} {R : Nat → Prop} {b : Nat} {v : CV} (k : RC w B R b v) (hk : Kp (fun _ => False) w w') : RC w' B R b v := k.kp hk (fun _ _ h => h) (fun _ h => h.elim)
theorem RC.ne {w : World} {B : Nat} {R : Nat → Prop} {b : Nat} {v : CV} (k : RC w B R b v) : blockOf v.ca ≠ some b := by
  intro e
  obtain ⟨cur, hc⟩ := k.own.type e
  have := k.blk.symm.trans hc
  simp at this

/-- Behind a store into the block itself: the cells of another value, whose lists are the same. -/
theorem RC.set {w w' : World} {B : Nat} {R : Nat → Prop} {b : Nat} {v : CV} (k : RC w B R b v) (hk : Kp (fun j => j = b) w w') (v' : CV) (hb : w'.heap[b]? = some (.cells v'.rcells 76 (0, 0)))
    (h1 : v'.sa = v.sa ∧ v'.sl = v.sl ∧ v'.id = v.id ∧ v'.pat = v.pat ∧ v'.ca = v.ca ∧ v'.cl = v.cl ∧ v'.cc = v.cc) (h2 : v'.at_ < v.sl.length)
    (ho : Row w v'.ord.da (bytes v'.ord.dl) ∧ In R v'.ord.da ∧ v'.ord.dl.length ≤ 140737488355328) (ha : Low w B v'.ans.ra (v'.ans.rl.map RecV.val) ∧ ∀ r ∈ v'.ans.rl, Low w B r.a (bytes r.d)) : RC w' B R b v' := by
  obtain ⟨e1, e2, e3, e4, e5, e6, e7⟩ := h1
  have hR : ∀ j, R j → ¬ j = b := fun j hj e => k.dis b (.inl rfl) (e ▸ hj)
  have hBb : ∀ j, j = b → B ≤ j := fun j e => e ▸ k.ge
  refine ⟨hb, k.ge, ?_, ?_, ?_, ?_, ?_, ?_, ?_, ?_, ?_, ho.1.kp hk (fun g hg => hR g (ho.2.1 g hg)), ho.2.1, ho.2.2, ha.1.kp hk hBb, fun r hr => (ha.2 r hr).kp hk hBb, ?_, ?_, ?_, fun j hj => ⟨(k.lt j hj).1, Nat.lt_of_lt_of_le (k.lt j hj).2 hk.size⟩⟩
  · rw [e1, e2]; exact k.srv.kp hk (fun g hg => hR g (k.srvR g hg))
  · rw [e1]; exact k.srvR
  · rw [e2]; exact k.one
  · rw [e2]; exact k.seven
  · rw [e2]; exact h2
  · rw [e3]; exact k.id1
  · rw [e3]; exact k.id2
  · rw [e4]; exact k.pat1
  · rw [e4]; exact k.pat2
  · rw [e5, e6, e7]
    exact k.own.kp hk (fun g hg e => k.ne (e ▸ hg))
  · rw [e6]
    exact fun q hq => ⟨(k.dat q hq).1.kp hk (fun g hg => hR g ((k.dat q hq).2 g hg)), (k.dat q hq).2⟩
  · rw [e5]; exact k.dis
/-- More blocks that are only read. -/
theorem RC.more {w : World} {B : Nat} {R R' : Nat → Prop} {b : Nat} {v : CV} (k : RC w B R b v) (h : ∀ j, R j → R' j) (hd : ∀ j, Foot b v.ca j → ¬ R' j) (hl : ∀ j, R' j → B ≤ j ∧ j < w.heap.size) : RC w B R' b v :=
  ⟨k.blk, k.ge, k.srv, fun g hg => h g (k.srvR g hg), k.one, k.seven, k.at_, k.id1, k.id2, k.pat1, k.pat2, k.ord, fun g hg => h g (k.ordR g hg), k.ordL, k.ans, k.rec_, k.own, fun q hq => ⟨(k.dat q hq).1, fun g hg => h g ((k.dat q hq).2 g hg)⟩, hd, hl⟩
end Go.Proofs.Ytjhefbkigmamfaa
