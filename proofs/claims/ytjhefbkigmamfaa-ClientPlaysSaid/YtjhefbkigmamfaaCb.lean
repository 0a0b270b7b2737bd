/-
  A client in memory: its block, its servers, its order, its answer, its calls. No condition.
-/
import Derived.Test.YtjhefbkigmamfaaApp
import Derived.Maps.AppendAt
import Derived.Deep.MidRow
namespace Go.Proofs.Ytjhefbkigmamfaa
open Go.RowKit
set_option linter.unusedVariables false

/-- A list's cells, as they can be read. -/
def Row (w : World) (a : Option Addr) (vs : List Value) : Prop := ∀ i v, vs[i]? = some v → ∃ b off, a = some ⟨b, off, none⟩ ∧ w.cell? ⟨b, off + i, none⟩ = some v
/-- The list's block is one of R's. -/
def In (R : Nat → Prop) (a : Option Addr) : Prop := ∀ g, blockOf a = some g → R g
theorem Row.kp {w w' : World} {a : Option Addr} {vs : List Value} (h : Row w a vs) {S : Nat → Prop} (k : Kp S w w') (hn : ∀ g, blockOf a = some g → ¬ S g) : Row w' a vs := by
  intro i v hv
  obtain ⟨b, off, rfl, hc⟩ := h i v hv
  exact ⟨b, off, rfl, (k.cell (p := ⟨b, off + i, none⟩) (World.block_lt_of_cell? w _ hc) (hn b rfl)).trans hc⟩
theorem Row.no {w w' : World} {a : Option Addr} {vs : List Value} (h : Row w a vs) (k : Kp (fun _ => False) w w') : Row w' a vs := h.kp k (fun _ _ h => h)
theorem Row.nil (w : World) (a : Option Addr) : Row w a [] := fun i v hv => by cases hv
theorem Owns.row {w : World} {B : Nat} {e : TypeId} {n cap : Nat} {a : Option Addr} {vs : List Value} (h : Owns w B e 1 a n cap vs) : Row w a vs := by
  intro i v hv
  obtain ⟨g, rfl, c⟩ := Owns.cell h hv
  exact ⟨g, 0, rfl, by rw [Nat.zero_add]; exact c⟩
theorem Row.news {w : World} {a : Option Addr} {vs : List Value} (h : Row w a vs) : ∀ j u, vs[j]? = some u → ∃ ad, a = some ad ∧ w.cell? (ad.add j) = some u := by
  intro j u hu
  obtain ⟨b, off, e, hc⟩ := h j u hu
  refine ⟨⟨b, off, none⟩, e, ?_⟩
  have : (⟨b, off, none⟩ : Addr).add j = ⟨b, off + j, none⟩ := by simp [Addr.add]
  rw [this]
  exact hc
theorem Row.int {w : World} {a : Option Addr} {zs : List Int} (h : Row w a (zs.map (Value.int .i64))) {i : Nat} (hi : i < zs.length) : ∃ b off, a = some ⟨b, off, none⟩ ∧ w.cell? ⟨b, off + i, none⟩ = some (.int .i64 (zs.getD i 0)) :=
  h i _ (by simp [List.getD, hi])

def ints (l : List Int) : List Value := l.map (Value.int .i64)
def bytes (l : List Int) : List Value := l.map (Value.int .u8)
theorem ints_length (l : List Int) : (ints l).length = l.length := by simp [ints]
theorem bytes_length (l : List Int) : (bytes l).length = l.length := by simp [bytes]
theorem one_ints (zs : List Int) : ∀ u ∈ ints zs, u.oneCell' = true := by
  intro u hu
  simp [ints] at hu
  obtain ⟨z, _, rfl⟩ := hu
  rfl
theorem one_bytes (zs : List Int) : ∀ u ∈ bytes zs, u.oneCell' = true := by
  intro u hu
  simp [bytes] at hu
  obtain ⟨z, _, rfl⟩ := hu
  rfl

/-- An order: with its data's place. -/
structure OrdV where
  kind : Int
  from_ : Int
  most : Int
  da : Option Addr
  dl : List Int
  dc : Nat
/-- A record of an answer. -/
structure RecV where
  a : Option Addr
  d : List Int
  c : Nat
def RecV.val (r : RecV) : Value := .slice r.a r.d.length r.c
structure AnsV where
  id : Int
  e : Int
  session : Int
  number : Int
  ra : Option Addr
  rl : List RecV
  rc : Nat
  leader : Int
structure CallV where
  to : Int
  id : Int
  kind : Int
  session : Int
  seq : Int
  from_ : Int
  most : Int
  da : Option Addr
  dl : List Int
  dc : Nat
def CallV.cells (q : CallV) : List Value := [.int .i64 q.to, .int .i64 q.id, .int .i64 q.kind, .int .i64 q.session, .int .i64 q.seq, .int .i64 q.from_, .int .i64 q.most, .slice q.da q.dl.length q.dc]
def flat8 (l : List CallV) : List Value := l.flatMap CallV.cells
theorem flat8_append (a b : List CallV) : flat8 (a ++ b) = flat8 a ++ flat8 b := by simp [flat8]
theorem flat8_cons (r : CallV) (l : List CallV) : flat8 (r :: l) = .int .i64 r.to :: .int .i64 r.id :: .int .i64 r.kind :: .int .i64 r.session :: .int .i64 r.seq :: .int .i64 r.from_ :: .int .i64 r.most :: .slice r.da r.dl.length r.dc :: flat8 l := rfl
theorem flat8_length : ∀ l : List CallV, (flat8 l).length = l.length * 8
  | [] => rfl
  | r :: l => by rw [flat8_cons]; simp [flat8_length l]; omega
theorem flat8_get : ∀ (l : List CallV) (k : Nat) (r : CallV) (j : Nat), l[k]? = some r → j < 8 → (flat8 l)[k * 8 + j]? = r.cells[j]?
  | [], k, r, j, h, _ => by simp at h
  | x :: l, 0, r, j, h, hj => by
    simp at h
    subst h
    show (x.cells ++ flat8 l)[0 * 8 + j]? = _
    rw [Nat.zero_mul, Nat.zero_add, List.getElem?_append_left (by simpa [CallV.cells] using hj)]
  | x :: l, k + 1, r, j, h, hj => by
    have ih := flat8_get l k r j (by simpa using h) hj
    show (x.cells ++ flat8 l)[(k + 1) * 8 + j]? = _
    rw [List.getElem?_append_right (by simp [CallV.cells]; omega), ← ih]
    congr 1
    simp [CallV.cells]
    omega
theorem one_flat8 (l : List CallV) : ∀ u ∈ flat8 l, u.oneCell' = true := by
  intro u hu
  unfold flat8 at hu
  rw [List.mem_flatMap] at hu
  obtain ⟨r, _, h⟩ := hu
  simp [CallV.cells] at h
  rcases h with rfl | rfl | rfl | rfl | rfl | rfl | rfl | rfl <;> rfl

/-- A client's value. -/
structure CV where
  sa : Option Addr
  sl : List Int
  sc : Nat
  at_ : Nat
  id : Int
  pat : Int
  passed : Int
  session : Int
  seq : Int
  tries : Int
  state : Int
  ord : OrdV
  ans : AnsV
  ca : Option Addr
  cl : List CallV
  cc : Nat
def OrdV.cells (o : OrdV) : List Value := [.int .i64 o.kind, .int .i64 o.from_, .int .i64 o.most, .slice o.da o.dl.length o.dc]
def AnsV.cells (o : AnsV) : List Value := [.int .i64 o.id, .int .i64 o.e, .int .i64 o.session, .int .i64 o.number, .slice o.ra o.rl.length o.rc, .int .i64 o.leader]
def CV.cells (v : CV) : Array Value := #[.slice v.sa v.sl.length v.sc, .int .i64 v.at_, .int .i64 v.id, .int .i64 v.pat, .int .i64 v.passed, .int .i64 v.session, .int .i64 v.seq, .int .i64 v.tries, .int .i64 v.state,
  .int .i64 v.ord.kind, .int .i64 v.ord.from_, .int .i64 v.ord.most, .slice v.ord.da v.ord.dl.length v.ord.dc,
  .int .i64 v.ans.id, .int .i64 v.ans.e, .int .i64 v.ans.session, .int .i64 v.ans.number, .slice v.ans.ra v.ans.rl.length v.ans.rc, .int .i64 v.ans.leader, .slice v.ca v.cl.length v.cc]

/-- Servers: numbers from nought to fifteen, each greater than the one ahead of it. -/
def Rising (zs : List Int) : Prop := ∀ i, i < zs.length → 0 ≤ zs.getD i 0 ∧ zs.getD i 0 < 16 ∧ (0 < i → zs.getD (i - 1) 0 < zs.getD i 0)
/-- The blocks that a client writes. -/
def Foot (b : Nat) (a : Option Addr) : Nat → Prop := fun k => k = b ∨ some k = blockOf a
/-- A client at block b, whose other blocks, R, are only read. -/
structure Client (w : World) (B : Nat) (R : Nat → Prop) (b : Nat) (v : CV) : Prop where
  blk : w.heap[b]? = some (.cells v.cells 65 (0, 0))
  ge : B ≤ b
  srv : Row w v.sa (ints v.sl)
  srvR : In R v.sa
  one : 1 ≤ v.sl.length
  seven : v.sl.length ≤ 7
  rs : Rising v.sl
  at_ : v.at_ < v.sl.length
  id1 : 1 ≤ v.id
  id2 : v.id ≤ 1000
  pat1 : 1 ≤ v.pat
  pat2 : v.pat ≤ 1000
  ord : Row w v.ord.da (bytes v.ord.dl)
  ordR : In R v.ord.da
  ordL : v.ord.dl.length ≤ 140737488355328
  ans : Row w v.ans.ra (v.ans.rl.map RecV.val)
  ansR : In R v.ans.ra
  rec_ : ∀ r ∈ v.ans.rl, Row w r.a (bytes r.d) ∧ In R r.a
  own : Owns w B 40 8 v.ca v.cl.length v.cc (flat8 v.cl)
  dat : ∀ q ∈ v.cl, Row w q.da (bytes q.dl) ∧ In R q.da
  dis : ∀ j, Foot b v.ca j → ¬ R j
  lt : ∀ j, R j → B ≤ j ∧ j < w.heap.size
/-- All its blocks. -/
def All (R : Nat → Prop) (b : Nat) (v : CV) : Nat → Prop := fun j => Foot b v.ca j ∨ R j
theorem Client.foot {w : World} {B : Nat} {R : Nat → Prop} {b : Nat} {v : CV} (k : Client w B R b v) {j : Nat} (h : Foot b v.ca j) : B ≤ j ∧ j < w.heap.size :=
  h.elim (fun e => by rw [e]; exact ⟨k.ge, lt_of_block k.blk⟩) (fun e => k.own.from e.symm)
theorem Client.all {w : World} {B : Nat} {R : Nat → Prop} {b : Nat} {v : CV} (k : Client w B R b v) {j : Nat} (h : All R b v j) : B ≤ j ∧ j < w.heap.size := h.elim k.foot (k.lt j)
theorem Client.kp {w w' : World} {B : Nat} {R : Nat → Prop} {b : Nat} {v : CV} (k : Client w B R b v) {S : Nat → Prop} (hk : Kp S w w') (hn : ∀ j, All R b v j → ¬ S j) : Client w' B R b v :=
  ⟨hk.heap k.blk (hn b (.inl (.inl rfl))), k.ge, k.srv.kp hk (fun g hg => hn g (.inr (k.srvR g hg))), k.srvR, k.one, k.seven, k.rs, k.at_, k.id1, k.id2, k.pat1, k.pat2, k.ord.kp hk (fun g hg => hn g (.inr (k.ordR g hg))), k.ordR, k.ordL, k.ans.kp hk (fun g hg => hn g (.inr (k.ansR g hg))), k.ansR,
    fun r hr => ⟨(k.rec_ r hr).1.kp hk (fun g hg => hn g (.inr ((k.rec_ r hr).2 g hg))), (k.rec_ r hr).2⟩, k.own.kp hk (fun g hg => hn g (.inl (.inr hg.symm))), fun q hq => ⟨(k.dat q hq).1.kp hk (fun g hg => hn g (.inr ((k.dat q hq).2 g hg))), (k.dat q hq).2⟩, k.dis,
    fun j hj => ⟨(k.lt j hj).1, Nat.lt_of_lt_of_le (k.lt j hj).2 hk.size⟩⟩
theorem Client.no {w w' : World} {B : Nat} {R : Nat → Prop} {b : Nat} {v : CV} (k : Client w B R b v) (hk : Kp (fun _ => False) w w') : Client w' B R b v := k.kp hk (fun _ _ h => h)
theorem Owns.type {w : World} {B : Nat} {e : TypeId} {size : Nat} {a : Option Addr} {n cap : Nat} {xs : List Value} (h : Owns w B e size a n cap xs) {b : Nat} (hb : blockOf a = some b) : ∃ cur, w.heap[b]? = some (.cells cur e (0, 0)) := by
  rcases h.2 with ⟨h2, _⟩ | ⟨g, cap', cur, hv, hge, hg, r⟩
  · simp only [Value.slice.injEq] at h2
    rw [h2.1] at hb
    cases hb
  · simp only [Value.slice.injEq] at hv
    rw [hv.1] at hb
    cases hb
    exact ⟨cur, hg⟩
theorem Client.ne {w : World} {B : Nat} {R : Nat → Prop} {b : Nat} {v : CV} (k : Client w B R b v) : blockOf v.ca ≠ some b := by
  intro e
  obtain ⟨cur, hc⟩ := k.own.type e
  have := k.blk.symm.trans hc
  simp at this

/-- Behind a store into the block itself: the cells of another value, whose lists are the same. -/
theorem Client.set {w w' : World} {B : Nat} {R : Nat → Prop} {b : Nat} {v : CV} (k : Client w B R b v) (hk : Kp (fun j => j = b) w w') (v' : CV) (hb : w'.heap[b]? = some (.cells v'.cells 65 (0, 0)))
    (h1 : v'.sa = v.sa ∧ v'.sl = v.sl ∧ v'.id = v.id ∧ v'.pat = v.pat ∧ v'.ca = v.ca ∧ v'.cl = v.cl ∧ v'.cc = v.cc) (h2 : v'.at_ < v.sl.length)
    (ho : Row w v'.ord.da (bytes v'.ord.dl) ∧ In R v'.ord.da ∧ v'.ord.dl.length ≤ 140737488355328) (ha : Row w v'.ans.ra (v'.ans.rl.map RecV.val) ∧ In R v'.ans.ra ∧ ∀ r ∈ v'.ans.rl, Row w r.a (bytes r.d) ∧ In R r.a) : Client w' B R b v' := by
  obtain ⟨e1, e2, e3, e4, e5, e6, e7⟩ := h1
  have hR : ∀ j, R j → ¬ j = b := fun j hj e => k.dis b (.inl rfl) (e ▸ hj)
  refine ⟨hb, k.ge, ?_, ?_, ?_, ?_, ?_, ?_, ?_, ?_, ?_, ?_, ho.1.kp hk (fun g hg => hR g (ho.2.1 g hg)), ho.2.1, ho.2.2, ha.1.kp hk (fun g hg => hR g (ha.2.1 g hg)), ha.2.1, fun r hr => ⟨(ha.2.2 r hr).1.kp hk (fun g hg => hR g ((ha.2.2 r hr).2 g hg)), (ha.2.2 r hr).2⟩, ?_, ?_, ?_, fun j hj => ⟨(k.lt j hj).1, Nat.lt_of_lt_of_le (k.lt j hj).2 hk.size⟩⟩
  · rw [e1, e2]; exact k.srv.kp hk (fun g hg => hR g (k.srvR g hg))
  · rw [e1]; exact k.srvR
  · rw [e2]; exact k.one
  · rw [e2]; exact k.seven
  · rw [e2]; exact k.rs
  · rw [e2]; exact h2
  · rw [e3]; exact k.id1
  · rw [e3]; exact k.id2
  · rw [e4]; exact k.pat1
  · rw [e4]; exact k.pat2
  · rw [e5, e6, e7]
    exact k.own.kp hk (fun g hg e => k.ne (e ▸ hg))
  · rw [e6]
    exact fun q hq => ⟨(k.dat q hq).1.kp hk (fun g hg => hR g ((k.dat q hq).2 g hg)), (k.dat q hq).2⟩
  · rw [e5]; exact k.dis
/-- More blocks that are only read. -/
theorem Client.more {w : World} {B : Nat} {R R' : Nat → Prop} {b : Nat} {v : CV} (k : Client w B R b v) (h : ∀ j, R j → R' j) (hd : ∀ j, Foot b v.ca j → ¬ R' j) (hl : ∀ j, R' j → B ≤ j ∧ j < w.heap.size) : Client w B R' b v :=
  ⟨k.blk, k.ge, k.srv, fun g hg => h g (k.srvR g hg), k.one, k.seven, k.rs, k.at_, k.id1, k.id2, k.pat1, k.pat2, k.ord, fun g hg => h g (k.ordR g hg), k.ordL, k.ans, fun g hg => h g (k.ansR g hg), fun r hr => ⟨(k.rec_ r hr).1, fun g hg => h g ((k.rec_ r hr).2 g hg)⟩, k.own, fun q hq => ⟨(k.dat q hq).1, fun g hg => h g ((k.dat q hq).2 g hg)⟩, hd, hl⟩
end Go.Proofs.Ytjhefbkigmamfaa
