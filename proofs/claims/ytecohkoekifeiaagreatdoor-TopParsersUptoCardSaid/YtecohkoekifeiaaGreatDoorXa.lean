/-
  Worlds, lists in memory, the plain law of the readers, a reader in memory; each small function walked once. No condition but lengths.
-/
import Derived.Test.YtecohkoekifeiaaGreatDoorProg
import GoSem.Claim
import GoSem.ClaimJoined
import GoSem.ClaimMapViews
import Derived.JoinedTies
import Derived.KernelRfl
import Derived.WalkKit
import Derived.ProofKit
import Derived.OpenShut
import Derived.WalkLawsBesides
import Derived.WalkSpells
import Derived.BigQuiet
import Derived.Deep.QuietTactic
import Derived.StillTailTactics
import Derived.Lib.Hide
import Derived.Deep.AppendSrc
import Derived.Maps.AppendAt
import Derived.Deep.MidRow
import Derived.Deep.RegionHeld3
import Derived.Lib.SliceRun
set_option linter.all false
namespace Go.Proofs.YtecohkoekifeiaaGreatDoor
open Go.RowKit

structure Kp (S : Nat → Prop) (w w' : World) : Prop where
  os : w'.os = w.os
  tape : w'.tape = w.tape
  output : w'.output = w.output
  size : w.heap.size ≤ w'.heap.size
  block : ∀ k, k < w.heap.size → ¬ S k → w'.heap[k]? = w.heap[k]?

theorem Kp.refl (S : Nat → Prop) (w : World) : Kp S w w := ⟨rfl, rfl, rfl, Nat.le_refl _, fun _ _ _ => rfl⟩
theorem Kp.mono {S S' : Nat → Prop} {w w' : World} (h : Kp S w w') (hs : ∀ k, k < w.heap.size → S k → S' k) : Kp S' w w' :=
  ⟨h.os, h.tape, h.output, h.size, fun k hk hn => h.block k hk fun h' => hn (hs k hk h')⟩
theorem Kp.andThen {S S' : Nat → Prop} {a b c : World} (h : Kp S a b) (k : Kp S' b c) (hs : ∀ i, i < a.heap.size → S' i → S i) : Kp S a c :=
  ⟨k.os.trans h.os, k.tape.trans h.tape, k.output.trans h.output, Nat.le_trans h.size k.size,
    fun i hi hn => (k.block i (Nat.lt_of_lt_of_le hi h.size) fun h' => hn (hs i hi h')).trans (h.block i hi hn)⟩
theorem Kp.trans {S : Nat → Prop} {a b c : World} (h : Kp S a b) (k : Kp S b c) : Kp S a c := h.andThen k fun _ _ h => h
theorem Kp.drew {S : Nat → Prop} {a w : World} (h : Kp S a w) : Kp S a w.drew := ⟨h.os, h.tape, h.output, h.size, h.block⟩
theorem Kp.drewN {S : Nat → Prop} {a w : World} (h : Kp S a w) (n : Nat) : Kp S a (w.drewN n) := ⟨h.os, h.tape, h.output, h.size, h.block⟩
theorem Kp.alloc {S : Nat → Prop} {a w : World} (h : Kp S a w) (o : Obj) : Kp S a (w.alloc o) :=
  h.andThen (S' := fun _ => False) ⟨rfl, rfl, rfl, by simp, fun k hk _ => Below.heap_alloc _ _ _ hk⟩ fun _ _ h => h.elim
theorem Kp.setCell {S : Nat → Prop} {a w : World} (h : Kp S a w) {p : Addr} (hp : S p.block ∨ a.heap.size ≤ p.block) (u : Value) : Kp S a (w.setCell p u) :=
  h.andThen (S' := fun k => k = p.block) ⟨rfl, rfl, rfl, by simp [World.setCell], fun k _ hn => Below.heap_setCell _ _ _ _ hn⟩
    fun i hi e => hp.elim (fun h => e ▸ h) (fun h => by omega)
theorem Kp.heap {S : Nat → Prop} {w w' : World} (h : Kp S w w') {k : Nat} {o : Obj} (hk : w.heap[k]? = some o) (hn : ¬ S k) : w'.heap[k]? = some o :=
  (h.block k (lt_of_block hk) hn).trans hk
theorem Kp.cell {S : Nat → Prop} {w w' : World} (h : Kp S w w') {p : Addr} (hp : p.block < w.heap.size) (hn : ¬ S p.block) : w'.cell? p = w.cell? p := World.cell?_of_block (w := w) (h.block p.block hp hn)
theorem Kp.frozen {S : Nat → Prop} {w w' : World} (h : Kp S w w') {p : Addr} (hp : p.block < w.heap.size) (hn : ¬ S p.block) : w'.frozen? p = w.frozen? p := World.frozen?_of_block (w := w) (h.block p.block hp hn)
theorem Kp.below {S : Nat → Prop} {B : Nat} {w w' : World} (h : Kp S w w') (hB : B ≤ w.heap.size) (hs : ∀ k, k < B → ¬ S k) : Below B w w' :=
  ⟨h.os, h.tape, h.output, h.size, fun k hk => h.block k (by omega) (hs k hk)⟩
theorem Kp.of_below {B : Nat} {w w' : World} (h : Below B w w') : Kp (fun k => B ≤ k) w w' :=
  ⟨h.os, h.tape, h.output, h.size, fun k _ hn => h.block k (by omega)⟩
theorem Kp.of_grown {w w' : World} {row : Option Nat} (h : w.grownBy w' row) : Kp (fun k => some k = row) w w' :=
  ⟨h.os, h.tape, h.output, h.size, fun k hk hn => h.block k hk hn⟩

theorem Kp.no {B : Nat} {a b : World} (h : Kp (fun _ => False) a b) : Kp (fun k => B ≤ k) a b := h.mono fun _ _ h => h.elim
theorem Kp.eq {B c : Nat} {a b : World} (h : Kp (fun k => k = c) a b) (hc : B ≤ c) : Kp (fun k => B ≤ k) a b := h.mono fun _ _ e => e ▸ hc
theorem Kp.fin {w w' : World} (h : Kp (fun k => w.heap.size ≤ k) w w') : Kp (fun _ => False) w w' := h.mono fun _ _ e => by omega
theorem Kp.belowW {W w : World} (h : Kp (fun k => W.heap.size ≤ k) W w) : Below W.heap.size W w := h.below (Nat.le_refl _) fun k hk => by omega

/-- A cell, and that it may be written, off a block that is known whole. -/
theorem cell_of {w : World} {b : Nat} {cs : Array Value} {t : TypeId} (h : w.heap[b]? = some (.cells cs t (0, 0))) (i : Nat) {v : Value} (hi : cs[i]? = some v) : w.cell? ⟨b, i, none⟩ = some v := by
  simp [World.cell?, h, hi]
theorem free_of {w : World} {b : Nat} {cs : Array Value} {t : TypeId} (h : w.heap[b]? = some (.cells cs t (0, 0))) (i : Nat) : w.frozen? ⟨b, i, none⟩ = false := by
  simp [World.frozen?, h]
theorem heap_set {w : World} {b : Nat} {cs : Array Value} {t : TypeId} {fz : Nat × Nat} (h : w.heap[b]? = some (.cells cs t fz)) (i : Nat) (v : Value) : (w.setCell ⟨b, i, none⟩ v).heap[b]? = some (.cells (cs.setIfInBounds i v) t fz) := by
  show (w.heap.modify b _)[b]? = _
  rw [Array.getElem?_modify, if_pos rfl, h]
  rfl
theorem heap_new (w : World) (o : Obj) : (w.alloc o).heap[w.heap.size]? = some o := by
  show (w.heap.push o)[w.heap.size]? = _
  simp
theorem heap_old {w : World} {k : Nat} {x : Obj} (o : Obj) (h : w.heap[k]? = some x) : (w.alloc o).heap[k]? = some x :=
  (Below.heap_alloc w o k (lt_of_block h)).trans h
theorem heap_set_other {w : World} {k : Nat} {x : Obj} (p : Addr) (u : Value) (h : w.heap[k]? = some x) (hn : k ≠ p.block) : (w.setCell p u).heap[k]? = some x :=
  (Below.heap_setCell w p u k hn).trans h
end Go.Proofs.YtecohkoekifeiaaGreatDoor
namespace Go.Proofs.YtecohkoekifeiaaGreatDoor
open Go.RowKit
set_option linter.unusedVariables false

/-- The list (a, n, cap) owns the cells xs: its block, where it has one, is from B on. -/
def Owns (w : World) (B : Nat) (e : TypeId) (size : Nat) (a : Option Addr) (n cap : Nat) (xs : List Value) : Prop := w.ownsRow B e size (.slice a n cap) n xs
/-- The list's block. -/
def blockOf : Option Addr → Option Nat
  | some a => some a.block
  | none => none

theorem Owns.nil (w : World) (B : Nat) (e : TypeId) (size : Nat) : Owns w B e size none 0 0 [] := World.ownsRow_nil w B e size
theorem Owns.kp {w w' : World} {B : Nat} {e : TypeId} {size : Nat} {a : Option Addr} {n cap : Nat} {xs : List Value} (h : Owns w B e size a n cap xs) {S : Nat → Prop} (k : Kp S w w') (hn : ∀ b, blockOf a = some b → ¬ S b) : Owns w' B e size a n cap xs := by
  refine ⟨h.1, ?_⟩
  rcases h.2 with h2 | ⟨g, cap', cur, hv, hb, hg, r⟩
  · exact .inl h2
  · refine .inr ⟨g, cap', cur, hv, hb, k.heap hg (hn g ?_), r⟩
    simp only [Value.slice.injEq] at hv
    rw [hv.1]
    rfl
theorem Owns.from {w : World} {B : Nat} {e : TypeId} {size : Nat} {a : Option Addr} {n cap : Nat} {xs : List Value} (h : Owns w B e size a n cap xs) {b : Nat} (hb : blockOf a = some b) : B ≤ b ∧ b < w.heap.size := by
  rcases h.2 with ⟨h2, _⟩ | ⟨g, cap', cur, hv, hge, hg, r⟩
  · simp only [Value.slice.injEq] at h2
    rw [h2.1] at hb
    cases hb
  · simp only [Value.slice.injEq] at hv
    rw [hv.1] at hb
    cases hb
    exact ⟨hge, lt_of_block hg⟩
theorem Owns.cell {w : World} {B : Nat} {e : TypeId} {size : Nat} {a : Option Addr} {n cap : Nat} {xs : List Value} (h : Owns w B e size a n cap xs) {j : Nat} {u : Value} (hu : xs[j]? = some u) :
    ∃ g, a = some ⟨g, 0, none⟩ ∧ w.cell? ⟨g, j, none⟩ = some u := by
  have hl := h.1
  rcases h.2 with ⟨_, h0⟩ | ⟨g, cap', cur, hv, hge, hg, hn, hc, hs, ht⟩
  · subst h0
    have : xs = [] := List.eq_nil_of_length_eq_zero (by simpa using hl)
    subst this
    cases hu
  · simp only [Value.slice.injEq] at hv
    refine ⟨g, hv.1, ?_⟩
    rw [World.cell?, hg]
    rw [← ht, List.getElem?_take] at hu
    split at hu
    · simpa using hu
    · cases hu
theorem Owns.shape {w : World} {B : Nat} {e : TypeId} {size : Nat} {v : Value} {n : Nat} {xs : List Value} (h : w.ownsRow B e size v n xs) : ∃ a cap, v = .slice a n cap ∧ Owns w B e size a n cap xs := by
  have h' := h
  rcases h'.2 with ⟨rfl, rfl⟩ | ⟨g, cap', cur, rfl, r⟩
  · exact ⟨none, 0, rfl, h⟩
  · exact ⟨some ⟨g, 0, none⟩, cap', rfl, h⟩
theorem blockOf_own (a : Option Addr) (n cap : Nat) : (Value.slice a n cap).ownBlock = blockOf a := by cases a <;> rfl

theorem wpList_app {P : Program} {w : World} {ops : Array Oper} {rest : List Oper} {o : Oper} {ac : Act} {Q : Exit → Act → World → Prop} (hgd : o.guard = none) (s x : Operand) (t : TypeId)
    (ho : o.op = .call { callee := .builtin .append, args := #[s, x], argTypes := #[t, t] })
    (B : Nat) (e : TypeId) {size bytes : Nat} {z : Value} (hinfo : (P.info? e).map (fun i => (i.zero, i.size, i.bytes)) = some (some z, size, bytes)) (ht : P.underlying t = some (.slice e)) (hzs : z.cells.size = size) (hsz : 0 < size)
    {a : Option Addr} {n cap : Nat} {xs : List Value} (hs : ac.eval s = .slice a n cap) (hown : Owns w B e size a n cap xs)
    {b : Option Addr} {m c : Nat} {news : List Value} (hx : ac.eval x = .slice b m c) (hl : news.length = m * size) (hnews : ∀ j u, news[j]? = some u → ∃ ad, b = some ad ∧ w.cell? (ad.add j) = some u) (h1 : ∀ u ∈ news, u.oneCell' = true)
    (h63 : n + m ≤ maxLen) (hbytes : (n + m) * bytes ≤ 140737488355328) (hbase : B ≤ w.heap.size)
    (h : ∀ a' cap' w', Owns w' B e size a' (n + m) cap' (xs ++ news) → Kp (fun k => some k = blockOf a) w w' → wpList P ops Q rest (ac.put o.dst (.slice a' (n + m) cap')) w') : wpList P ops Q (o :: rest) ac w := by
  obtain ⟨i, hi, hz0, hz1, hz2⟩ := info_parts hinfo
  cases b with
  | some ad =>
    refine wpList_append_own w hgd s x t ho B e i z size bytes ht hi hz0 hz1 hz2 hzs hsz _ n xs hs hown ad m c news hx hl (fun j u hu => ?_) h1 h63 hbytes hbase ?_
    · obtain ⟨ad', e1, h2⟩ := hnews j u hu
      cases e1
      exact h2
    · intro v' w' hown' hg _
      obtain ⟨a', cap', rfl, ho'⟩ := Owns.shape hown'
      refine h a' cap' w' ho' ?_
      have := Kp.of_grown hg
      rw [blockOf_own] at this
      exact this
  | none =>
    have hm0 : news = [] := by
      cases hn : news with
      | nil => rfl
      | cons u r =>
        obtain ⟨ad, e1, _⟩ := hnews 0 u (by rw [hn]; rfl)
        cases e1
    subst hm0
    have hm : m = 0 := by
      have : m * size = 0 := by simpa using hl.symm
      rcases Nat.mul_eq_zero.1 this with h | h <;> omega
    subst hm
    refine wpList_plain hgd fun K hK => ?_
    have hrun : (Builtin.append_ #[t, t] o.type #[.slice a n cap, .slice none 0 c]).run P w = .ok (.slice a n cap) w := by
      rcases hown.2 with ⟨h2, h0⟩ | ⟨g, cap', cur, hv, hge, hg, hn, hc, hs', ht'⟩
      · simp only [Value.slice.injEq] at h2
        obtain ⟨rfl, rfl, rfl⟩ := h2
        simp [Builtin.append_, run_underlying ht, sizeOf, typeInfo, hi, Builtin.lenOf, Builtin.firstCells]
      · simp only [Value.slice.injEq] at hv
        obtain ⟨rfl, _, rfl⟩ := hv
        have := run_append_room_src (P := P) w t t o.type e i ht hi g 0 n cap (.slice none 0 c) 0 [] (Src.ofNil w ht c) (by omega) (by simp) (by simp)
        rw [this]
        rfl
    unfold Oper.wp
    simp [execOp, ho, resolve, invoke, builtin, hs, hx, hrun, Result.andThen]
    exact hK _ _ (by have := h a cap w (by simpa using hown) (Kp.refl _ _); simpa using this)

/-- A walk halts at an operation: 'go_wp2_with (at_builtin; refine Stop.mk ?_)', then 'unfold Stop'. -/
def Stop (p : Prop) : Prop := p
theorem Stop.mk {p : Prop} (h : Stop p) : p := h

/-- An empty list literal. -/
theorem Owns.lit {w : World} {B : Nat} {e : TypeId} {size : Nat} {b : Nat} (h : w.heap[b]? = some (.cells #[] e (0, 0))) (hB : B ≤ b) : Owns w B e size (some ⟨b, 0, none⟩) 0 0 [] :=
  ⟨by simp, .inr ⟨b, 0, #[], rfl, hB, h, Nat.le_refl _, Nat.zero_le _, by simp, by simp⟩⟩
end Go.Proofs.YtecohkoekifeiaaGreatDoor
namespace Go.Proofs.YtecohkoekifeiaaGreatDoor
open Go.RowKit
set_option linter.unusedVariables false

/-- A list's cells, as they can be read. -/
def Row (w : World) (a : Option Addr) (vs : List Value) : Prop := ∀ i v, vs[i]? = some v → ∃ b off, a = some ⟨b, off, none⟩ ∧ w.cell? ⟨b, off + i, none⟩ = some v
/-- The list's block is one of R's. -/
def In (R : Nat → Prop) (a : Option Addr) : Prop := ∀ g, blockOf a = some g → R g
theorem Row.kp {w w' : World} {a : Option Addr} {vs : List Value} (h : Row w a vs) {S : Nat → Prop} (k : Kp S w w') (hn : ∀ g, blockOf a = some g → ¬ S g) : Row w' a vs := by
  intro i v hv
  obtain ⟨b, off, rfl, hc⟩ := h i v hv
  exact ⟨b, off, rfl, (k.cell (p := ⟨b, off + i, none⟩) (World.block_lt_of_cell? w _ hc) (hn b rfl)).trans hc⟩
theorem Row.no {w w' : World} {a : Option Addr} {vs : List Value} (h : Row w a vs) (k : Kp (fun _ => False) w w') : Row w' a vs := h.kp k (fun _ _ h => h)
theorem Row.nil (w : World) (a : Option Addr) : Row w a [] := fun i v hv => by cases hv
theorem Owns.row {w : World} {B : Nat} {e : TypeId} {n cap : Nat} {a : Option Addr} {vs : List Value} (h : Owns w B e 1 a n cap vs) : Row w a vs := by
  intro i v hv
  obtain ⟨g, rfl, c⟩ := Owns.cell h hv
  exact ⟨g, 0, rfl, by rw [Nat.zero_add]; exact c⟩
theorem Row.news {w : World} {a : Option Addr} {vs : List Value} (h : Row w a vs) : ∀ j u, vs[j]? = some u → ∃ ad, a = some ad ∧ w.cell? (ad.add j) = some u := by
  intro j u hu
  obtain ⟨b, off, e, hc⟩ := h j u hu
  refine ⟨⟨b, off, none⟩, e, ?_⟩
  have : (⟨b, off, none⟩ : Addr).add j = ⟨b, off + j, none⟩ := by simp [Addr.add]
  rw [this]
  exact hc
theorem Row.int {w : World} {a : Option Addr} {zs : List Int} (h : Row w a (zs.map (Value.int .i64))) {i : Nat} (hi : i < zs.length) : ∃ b off, a = some ⟨b, off, none⟩ ∧ w.cell? ⟨b, off + i, none⟩ = some (.int .i64 (zs.getD i 0)) :=
  h i _ (by simp [List.getD, hi])

def ints (l : List Int) : List Value := l.map (Value.int .i64)
def bytes (l : List Int) : List Value := l.map (Value.int .u8)
theorem bytes_length (l : List Int) : (bytes l).length = l.length := by simp [bytes]
theorem one_bytes (zs : List Int) : ∀ u ∈ bytes zs, u.oneCell' = true := by
  intro u hu
  simp [bytes] at hu
  obtain ⟨z, _, rfl⟩ := hu
  rfl
theorem Row.str {w : World} {a : Option Addr} {zs : List Int} (h : Row w a (bytes zs)) (c : Nat) : (convert 22 9 (.slice a zs.length c)).run Tryz.prog w = .ok (.string (strOfNums zs)) w := by
  match zs, h with
  | [], h =>
    cases a with
    | none => exact run_convert_bytes_nil w 22 5 Tryz.underlying22 Tryz.underlying5 0 c 9 Tryz.underlying9
    | some ad =>
      show (convert 22 9 (.slice (some ad) 0 c)).run Tryz.prog w = _
      rw [run_convert_bytes_string w 22 9 5 _ _ c Tryz.underlying22 Tryz.underlying5 Tryz.underlying9, run_bytesToString w ad 0 c [] (run_loadCells_list (P := Tryz.prog) w ad [] (fun j v hj => by cases hj))]
      rfl
  | z :: r, h =>
    obtain ⟨b, off, rfl, _⟩ := h 0 (.int .u8 z) rfl
    refine run_convert_bytes_arg w 22 5 Tryz.underlying22 Tryz.underlying5 b off _ c (z :: r) rfl (fun i hi => ?_) 9 Tryz.underlying9
    obtain ⟨b', off', e, hc⟩ := h i (.int .u8 ((z :: r).getD i 0)) (by unfold bytes; rw [List.getElem?_map, List.getElem?_eq_getElem hi]; simp [List.getD, List.getElem?_eq_getElem hi])
    cases e
    exact hc
end Go.Proofs.YtecohkoekifeiaaGreatDoor
namespace Go.Proofs.YtecohkoekifeiaaGreatDoor

/-- A number's bytes, the low ones first. -/
def le (n : Nat) : List Int := if h : n = 0 then [] else ((n % 256 : Nat) : Int) :: le (n / 256)
termination_by n
decreasing_by omega
/-- A number as it is written. -/
def enc (n : Nat) : List Int := ((le n).length : Int) :: le n
/-- What bytes say. -/
def val : List Int → Nat
  | [] => 0
  | c :: t => c.toNat + 256 * val t
def Byte (l : List Int) : Prop := ∀ c ∈ l, 0 ≤ c ∧ c < 256

theorem le_zero : le 0 = [] := by rw [le]; simp
theorem le_pos {n : Nat} (h : n ≠ 0) : le n = ((n % 256 : Nat) : Int) :: le (n / 256) := by rw [le]; simp [h]
theorem val_pos : ∀ {l : List Int}, l ≠ [] → l.getD (l.length - 1) 0 ≠ 0 → Byte l → val l ≠ 0
  | [], h, _, _ => absurd rfl h
  | [c], _, hl, hb => by
    have := hb c (by simp)
    simp at hl
    simp [val]
    omega
  | c :: d :: t, _, hl, hb => by
    have h1 := val_pos (l := d :: t) (by simp) (by simpa using hl) (fun x hx => hb x (by simp at hx ⊢; exact .inr hx))
    rw [val]
    omega
theorem le_val : ∀ {l : List Int}, (l = [] ∨ l.getD (l.length - 1) 0 ≠ 0) → Byte l → le (val l) = l
  | [], _, _ => by rw [val, le_zero]
  | c :: t, hl, hb => by
    have hc := hb c (by simp)
    have hl' : (c :: t).getD ((c :: t).length - 1) 0 ≠ 0 := hl.resolve_left (by simp)
    have hn := val_pos (l := c :: t) (by simp) hl' hb
    have ht : t = [] ∨ t.getD (t.length - 1) 0 ≠ 0 := by
      cases t with
      | nil => exact .inl rfl
      | cons d t => exact .inr (by simpa using hl')
    have ih := le_val (l := t) ht (fun x hx => hb x (by simp [hx]))
    rw [le_pos hn]
    have hv : val (c :: t) = c.toNat + 256 * val t := rfl
    have h1 : val (c :: t) % 256 = c.toNat := by omega
    have h2 : val (c :: t) / 256 = val t := by omega
    rw [h1, h2, ih]
    congr 1
    omega
theorem val_lt : ∀ {l : List Int}, Byte l → val l < 256 ^ l.length
  | [], _ => by simp [val]
  | c :: t, hb => by
    have hc := hb c (by simp)
    have ih := val_lt (l := t) (fun x hx => hb x (by simp [hx]))
    have : 256 ^ (c :: t).length = 256 * 256 ^ t.length := by simp [Nat.pow_succ, Nat.mul_comm]
    rw [this, val]
    omega

/-- A reader: its error, what is left. -/
structure Rd where
  e : Int
  b : List Int
/-- A number that comes. -/
def Rd.num (r : Rd) : Nat × Rd :=
  if r.e = 0 then
    match r.b with
    | [] => (0, ⟨20, []⟩)
    | n :: t =>
      if 6 < n then (0, ⟨21, r.b⟩)
      else if t.length < n.toNat then (0, ⟨20, r.b⟩)
      else if 0 < n ∧ t.getD (n.toNat - 1) 0 = 0 then (0, ⟨21, r.b⟩)
      else (val (t.take n.toNat), ⟨0, t.drop n.toNat⟩)
  else (0, r)
/-- Bytes that come. -/
def Rd.bytes (r : Rd) : List Int × Rd :=
  if r.e = 0 then
    if r.num.2.e = 0 then
      if 1048576 < r.num.1 then ([], ⟨21, r.b⟩)
      else if r.num.2.b.length < r.num.1 then ([], ⟨20, r.b⟩)
      else (r.num.2.b.take r.num.1, ⟨0, r.num.2.b.drop r.num.1⟩)
    else ([], ⟨r.num.2.e, r.b⟩)
  else ([], r)
theorem Rd.num_bad {r : Rd} (h : r.e ≠ 0) : r.num = (0, r) := by simp [Rd.num, h]
theorem Rd.bytes_bad {r : Rd} (h : r.e ≠ 0) : r.bytes = ([], r) := by simp [Rd.bytes, h]
theorem Rd.num_e {r : Rd} (h : r.num.2.e = 0) : r.e = 0 := by
  by_cases he : r.e = 0
  · exact he
  · rwa [Rd.num_bad he] at h
theorem Rd.bytes_e {r : Rd} (h : r.bytes.2.e = 0) : r.e = 0 := by
  by_cases he : r.e = 0
  · exact he
  · rwa [Rd.bytes_bad he] at h
theorem Rd.num_ok {r : Rd} (hb : Byte r.b) (h : r.num.2.e = 0) : r.b = enc r.num.1 ++ r.num.2.b ∧ r.num.1 < 2 ^ 48 := by
  have he := Rd.num_e h
  obtain ⟨e, b⟩ := r
  have he' : e = 0 := he
  subst he'
  cases b with
  | nil => simp [Rd.num] at h
  | cons n t =>
    have hn := hb n (by simp)
    simp only [Rd.num, if_true] at h ⊢
    split at h
    · simp at h
    · split at h
      · simp at h
      · split at h
        · simp at h
        · rename_i h6 hlen hz
          have hB : Byte (t.take n.toNat) := fun c hc => hb c (by simp [List.mem_of_mem_take hc])
          have hl : (t.take n.toNat).length = n.toNat := by rw [List.length_take]; omega
          have hcan : t.take n.toNat = [] ∨ (t.take n.toNat).getD ((t.take n.toNat).length - 1) 0 ≠ 0 := by
            by_cases h0 : 0 < n
            · right
              rw [hl]
              intro hx
              apply hz
              refine ⟨h0, ?_⟩
              have hx' := hx
              simp only [List.getD_eq_getElem?_getD] at hx' ⊢
              rwa [List.getElem?_take_of_lt (by omega)] at hx'
            · left
              have : n.toNat = 0 := by omega
              simp [this]
          have hv := le_val hcan hB
          simp only [h6, if_false, hlen, hz]
          refine ⟨?_, ?_⟩
          · rw [enc, hv, hl, List.cons_append, List.take_append_drop]
            congr 1
            omega
          · have := val_lt hB
            rw [hl] at this
            exact Nat.lt_of_lt_of_le this (by
              have : (256 : Nat) ^ n.toNat ≤ 256 ^ 6 := Nat.pow_le_pow_right (by omega) (by omega)
              simpa using this)
theorem byte_drop {l : List Int} (h : Byte l) (k : Nat) : Byte (l.drop k) := fun c hc => h c (List.mem_of_mem_drop hc)
theorem byte_take {l : List Int} (h : Byte l) (k : Nat) : Byte (l.take k) := fun c hc => h c (List.mem_of_mem_take hc)
theorem Rd.num_byte {r : Rd} (hb : Byte r.b) : Byte r.num.2.b := by
  unfold Rd.num
  split
  · split
    · intro c hc; cases hc
    · rename_i n t hbt
      split
      · exact hb
      · split
        · exact hb
        · split
          · exact hb
          · exact byte_drop (fun c hc => hb c (by rw [hbt]; simp [hc])) _
  · exact hb
theorem Rd.bytes_byte {r : Rd} (hb : Byte r.b) : Byte r.bytes.2.b ∧ Byte r.bytes.1 := by
  unfold Rd.bytes
  have nil : Byte [] := fun c hc => by cases hc
  split
  · split
    · split
      · exact ⟨hb, nil⟩
      · split
        · exact ⟨hb, nil⟩
        · exact ⟨byte_drop (Rd.num_byte hb) _, byte_take (Rd.num_byte hb) _⟩
    · exact ⟨hb, nil⟩
  · exact ⟨hb, nil⟩
/-- Bytes as they are written: with their number. -/
def encs (d : List Int) : List Int := enc d.length ++ d
theorem Rd.bytes_ok {r : Rd} (hb : Byte r.b) (h : r.bytes.2.e = 0) : r.b = encs r.bytes.1 ++ r.bytes.2.b ∧ r.bytes.1.length ≤ 1048576 := by
  have he := Rd.bytes_e h
  by_cases hn : r.num.2.e = 0
  · have hk := Rd.num_ok hb hn
    simp only [Rd.bytes, he, hn, if_true] at h ⊢
    split at h
    · simp at h
    · split at h
      · simp at h
      · rename_i h1 h2
        simp only [h1, h2, if_false]
        have hl : (r.num.2.b.take r.num.1).length = r.num.1 := by rw [List.length_take]; omega
        refine ⟨?_, by rw [hl]; omega⟩
        rw [encs, hl, List.append_assoc, List.take_append_drop]
        exact hk.1
  · simp [Rd.bytes, he, hn] at h

/-- An entry. -/
structure En where
  term : Nat
  index : Nat
  kind : Nat
  data : List Int
def getE (b : List Int) : En × Rd :=
  let t := (Rd.mk 0 b).num
  let i := t.2.num
  let k := i.2.num
  let d := k.2.bytes
  (⟨t.1, i.1, k.1, d.1⟩, d.2)
def putE (x : En) : List Int := enc x.term ++ enc x.index ++ enc x.kind ++ encs x.data
theorem entry_back {b : List Int} (hb : Byte b) (h : (getE b).2.e = 0) (hl : (getE b).2.b = []) : putE (getE b).1 = b := by
  simp only [getE] at h hl ⊢
  have h3 := Rd.bytes_e h
  have h2 := Rd.num_e h3
  have h1 := Rd.num_e h2
  have b0 : Byte (Rd.mk 0 b).b := hb
  have b1 := Rd.num_byte b0
  have b2 := Rd.num_byte b1
  have b3 := Rd.num_byte b2
  have e0 := (Rd.num_ok b0 h1).1
  have e1 := (Rd.num_ok b1 h2).1
  have e2 := (Rd.num_ok b2 h3).1
  have e3 := (Rd.bytes_ok b3 h).1
  rw [hl, List.append_nil] at e3
  rw [putE]
  simp only
  rw [List.append_assoc, List.append_assoc, ← e3, ← e2, ← e1]
  exact e0.symm

/-- Numbers, one behind the other. -/
def Rd.nums : Nat → Rd → List Nat × Rd
  | 0, r => ([], r)
  | n + 1, r => (r.num.1 :: (Rd.nums n r.num.2).1, (Rd.nums n r.num.2).2)
theorem Rd.nums_e : ∀ {n : Nat} {r : Rd}, (Rd.nums n r).2.e = 0 → r.e = 0
  | 0, _, h => h
  | _ + 1, _, h => Rd.num_e (Rd.nums_e h)
theorem Rd.nums_byte : ∀ {n : Nat} {r : Rd}, Byte r.b → Byte (Rd.nums n r).2.b
  | 0, _, h => h
  | n + 1, _, h => Rd.nums_byte (n := n) (Rd.num_byte h)
theorem Rd.nums_ok : ∀ {n : Nat} {r : Rd}, Byte r.b → (Rd.nums n r).2.e = 0 → r.b = (Rd.nums n r).1.flatMap enc ++ (Rd.nums n r).2.b ∧ (Rd.nums n r).1.length = n
  | 0, r, _, _ => by simp [Rd.nums]
  | n + 1, r, hb, h => by
    have h1 : (Rd.nums n r.num.2).2.e = 0 := h
    have ih := Rd.nums_ok (n := n) (Rd.num_byte hb) h1
    have e0 := (Rd.num_ok hb (Rd.nums_e h1)).1
    simp only [Rd.nums, List.flatMap_cons, List.length_cons, List.append_assoc]
    rw [← ih.1]
    exact ⟨e0, by rw [ih.2]⟩

/-- Entries, each within its bytes; 'ok' says which ones may be. -/
def Rd.ents (ok : En → Bool) : Nat → Rd → Option (List En × Rd)
  | 0, r => some ([], r)
  | n + 1, r =>
    if (getE r.bytes.1).2.e = 0 ∧ (getE r.bytes.1).2.b = [] ∧ ok (getE r.bytes.1).1 = true then
      (Rd.ents ok n r.bytes.2).map fun p => ((getE r.bytes.1).1 :: p.1, p.2)
    else none
theorem Rd.ents_byte {ok : En → Bool} : ∀ {n : Nat} {r : Rd} {l : List En} {q : Rd}, Rd.ents ok n r = some (l, q) → Byte r.b → Byte q.b
  | 0, r, l, q, h, hb => by
    simp [Rd.ents] at h
    rw [← h.2]
    exact hb
  | n + 1, r, l, q, h, hb => by
    rw [Rd.ents] at h
    split at h
    · cases h2 : Rd.ents ok n r.bytes.2 with
      | none => rw [h2] at h; simp at h
      | some p =>
        obtain ⟨l2, q2⟩ := p
        rw [h2] at h
        simp at h
        rw [← h.2]
        exact Rd.ents_byte h2 (Rd.bytes_byte hb).1
    · cases h
theorem Rd.ents_ok {ok : En → Bool} : ∀ {n : Nat} {r : Rd} {l : List En} {q : Rd}, Rd.ents ok n r = some (l, q) → Byte r.b → q.e = 0 → r.e = 0 ∧ r.b = l.flatMap (fun x => encs (putE x)) ++ q.b ∧ l.length = n ∧ ∀ x ∈ l, ok x = true
  | 0, r, l, q, h, hb, hq => by
    simp [Rd.ents] at h
    obtain ⟨rfl, rfl⟩ := h
    simp [hq]
  | n + 1, r, l, q, h, hb, hq => by
    rw [Rd.ents] at h
    split at h
    · rename_i hc
      cases h2 : Rd.ents ok n r.bytes.2 with
      | none => rw [h2] at h; simp at h
      | some p =>
        obtain ⟨l2, q2⟩ := p
        rw [h2] at h
        simp at h
        obtain ⟨rfl, rfl⟩ := h
        have hB := Rd.bytes_byte hb
        have ih := Rd.ents_ok h2 hB.1 hq
        have e0 := (Rd.bytes_ok hb ih.1).1
        have eb := entry_back hB.2 hc.1 hc.2.1
        refine ⟨Rd.bytes_e ih.1, ?_, by simp [ih.2.2.1], ?_⟩
        · simp only [List.flatMap_cons, List.append_assoc]
          rw [← ih.2.1, eb]
          exact e0
        · intro x hx
          simp at hx
          rcases hx with rfl | hx
          · exact hc.2.2
          · exact ih.2.2.2 x hx
    · cases h

/-- Lists of bytes, one behind the other; each told by its own reading. -/
def Rd.rows : Nat → Rd → List (List Int) × Rd
  | 0, r => ([], r)
  | n + 1, r => (r.bytes.1 :: (Rd.rows n r.bytes.2).1, (Rd.rows n r.bytes.2).2)
theorem Rd.rows_e : ∀ {n : Nat} {r : Rd}, (Rd.rows n r).2.e = 0 → r.e = 0
  | 0, _, h => h
  | _ + 1, _, h => Rd.bytes_e (Rd.rows_e h)
theorem Rd.rows_ok : ∀ {n : Nat} {r : Rd}, Byte r.b → (Rd.rows n r).2.e = 0 → r.b = (Rd.rows n r).1.flatMap encs ++ (Rd.rows n r).2.b ∧ (Rd.rows n r).1.length = n
  | 0, r, _, _ => by simp [Rd.rows]
  | n + 1, r, hb, h => by
    have h1 : (Rd.rows n r.bytes.2).2.e = 0 := h
    have ih := Rd.rows_ok (n := n) (Rd.bytes_byte hb).1 h1
    have e0 := (Rd.bytes_ok hb (Rd.rows_e h1)).1
    simp only [Rd.rows, List.flatMap_cons, List.length_cons, List.append_assoc]
    rw [← ih.1]
    exact ⟨e0, by rw [ih.2]⟩

/-- A machine's bytes: four numbers, four of each session, the records: what was read is what would be written. -/
def putM (a s n : Nat) (ss : List Nat) (rs : List (List Int)) : List Int := [a, s, n, ss.length / 4].flatMap enc ++ ss.flatMap enc ++ rs.flatMap encs
theorem machine_back {b : List Int} {a s n k : Nat} {ss : List Nat} {rs : List (List Int)} {q q1 q2 : Rd} (hb : Byte b)
    (h1 : Rd.nums 4 ⟨0, b⟩ = ([a, s, n, k], q)) (h2 : Rd.nums (4 * k) q = (ss, q1)) (h3 : Rd.rows (n - s) q1 = (rs, q2)) (he : q2.e = 0) (hl : q2.b = []) : putM a s n ss rs = b ∧ rs.length = n - s := by
  have e3 : (Rd.rows (n - s) q1).2.e = 0 := by rw [h3]; exact he
  have e2 : (Rd.nums (4 * k) q).2.e = 0 := by rw [h2]; exact Rd.rows_e e3
  have e1 : (Rd.nums 4 ⟨0, b⟩).2.e = 0 := by rw [h1]; exact Rd.nums_e e2
  have b0 : Byte (Rd.mk 0 b).b := hb
  have b1 : Byte q.b := by have := Rd.nums_byte (n := 4) b0; rwa [h1] at this
  have b2 : Byte q1.b := by have := Rd.nums_byte (n := 4 * k) b1; rwa [h2] at this
  have k1 := Rd.nums_ok b0 e1
  have k2 := Rd.nums_ok b1 e2
  have k3 := Rd.rows_ok b2 e3
  rw [h1] at k1
  rw [h2] at k2
  rw [h3] at k3
  simp only [hl, List.append_nil] at k3
  refine ⟨?_, k3.2⟩
  have hk : ss.length / 4 = k := by rw [k2.2]; omega
  rw [putM, hk, List.append_assoc, ← k3.1, ← k2.1]
  exact k1.1.symm
end Go.Proofs.YtecohkoekifeiaaGreatDoor
namespace Go.Proofs.YtecohkoekifeiaaGreatDoor
open Go.ChangeShapes Go.WideShapes Go.ChangeAt Go.RowKit
set_option linter.unusedVariables false

/-- A reader in memory: its block rb; what it reads lies in the block G. -/
structure Rdr (w : World) (rb : Nat) (G : Option Nat) (r : Rd) (a : Option Addr) (c : Nat) : Prop where
  blk : w.heap[rb]? = some (.cells #[.int .i64 r.e, .slice a r.b.length c, .bool true] 99 (0, 0))
  row : Row w a (bytes r.b)
  at_ : ∀ g, blockOf a = some g → some g = G
  ne : G ≠ some rb
  cap : r.b.length ≤ c
  nn : a = none → c = 0
  sp : ∀ ad, a = some ad → ad.spot = none

theorem num_any (w : World) (e : Int) : Calls Tryz.prog 16 #[.int .i64 e] w fun r w' => r = .returned (.int .i64 e) ∧ w' = w := by
  go_enter Tryz.func16, Tryz.ntmps16
  go_wp2
  go_ret
  exact ⟨rfl, rfl⟩
theorem none_no {w : World} {b : Nat} {cs : Array Value} (hb : w.heap[b]? = some (.cells cs 99 (0, 0))) {m : Bool} (h1 : cs[2]? = some (.bool m)) : Calls Tryz.prog 45 #[.pointer (some ⟨b, 0, none⟩)] w fun r w' => r = .returned (.bool (!m)) ∧ w' = w := by
  have c := cell_of hb 2 h1
  go_enter Tryz.func45, Tryz.ntmps45
  go_wp2
  go_ret
  exact ⟨rfl, rfl⟩
theorem ok_any {w : World} {b : Nat} {cs : Array Value} (hb : w.heap[b]? = some (.cells cs 99 (0, 0))) {e : Int} (h1 : cs[0]? = some (.int .i64 e)) : Calls Tryz.prog 46 #[.pointer (some ⟨b, 0, none⟩)] w fun r w' => r = .returned (.bool (decide (e = 0))) ∧ w' = w := by
  have c := cell_of hb 0 h1
  go_enter Tryz.func46, Tryz.ntmps46
  go_wp2
  go_ret
  exact ⟨rfl, rfl⟩
theorem set_self {cs : Array Value} {i : Nat} {v : Value} (h : cs[i]? = some v) : cs.setIfInBounds i v = cs := by
  apply Array.ext_getElem?
  intro j
  rw [Array.getElem?_setIfInBounds]
  by_cases hj : i = j
  · subst hj
    rw [if_pos rfl, if_pos (Array.getElem?_eq_some_iff.1 h).1, h]
  · rw [if_neg hj]
theorem str_eq {s t : ByteArray} (h : (s.toList == t.toList) = true) : s = t := by
  have h2 : s.toList = t.toList := by simpa using h
  rw [ByteArray.toList_eq, ByteArray.toList_eq] at h2
  cases s with | mk a => cases t with | mk b => exact congrArg _ (Array.toList_inj.1 h2)
theorem set_any {w : World} {b : Nat} {cs : Array Value} (hb : w.heap[b]? = some (.cells cs 99 (0, 0))) {e : Int} (h1 : cs[0]? = some (.int .i64 e)) (n : Int) : Calls Tryz.prog 47 #[.pointer (some ⟨b, 0, none⟩), .int .i64 n] w fun r w' => r = .returned (.tuple #[]) ∧
    w'.heap[b]? = some (.cells (cs.setIfInBounds 0 (.int .i64 (if e = 0 then n else e))) 99 (0, 0)) ∧ Kp (fun k => k = b) w w' := by
  have c := cell_of hb 0 h1
  have f := free_of hb 0
  have hset := heap_set hb 0 (.int .i64 n)
  have HB := Lib.hid hb
  have HS := Lib.hid hset
  have H1 := Lib.hid h1
  clear hb hset h1
  by_cases he : e = 0
  · subst he
    go_enter Tryz.func47, Tryz.ntmps47
    go_wp2
    go_end0
    exact ⟨rfl, HS.out, (Kp.refl (fun k => k = b) w).setCell (p := ⟨b, 0, none⟩) (Or.inl rfl) _⟩
  · go_enter Tryz.func47, Tryz.ntmps47
    go_wp2
    go_end0
    refine ⟨rfl, ?_, Kp.refl _ _⟩
    rw [HB.out]
    congr 2
    exact (set_self H1.out).symm
theorem err_any {w : World} {b : Nat} {cs : Array Value} (hb : w.heap[b]? = some (.cells cs 99 (0, 0))) {e : Int} (h1 : cs[0]? = some (.int .i64 e)) (h2 : cs[2]? = some (.bool true)) : Calls Tryz.prog 38 #[.pointer (some ⟨b, 0, none⟩)] w fun r w' => r = .returned (.int .i64 e) ∧ w' = w := by
  have c := cell_of hb 0 h1
  have hn : Calls Tryz.prog 45 #[.pointer (some ⟨b, 0, none⟩)] w fun r w' => r = .returned (.bool (!true)) ∧ w' = w := none_no hb h2
  have HN := Lib.hid hn
  clear hb hn h1 h2
  go_enter Tryz.func38, Tryz.ntmps38
  go_wp2_with (go_at_call 45; refine (HN.out).mono ?_; rintro r w1 ⟨rfl, rfl⟩)
  go_ret
  exact ⟨rfl, rfl⟩
theorem Owns.cap {w : World} {B : Nat} {e : TypeId} {size : Nat} {a : Option Addr} {n cap : Nat} {xs : List Value} (h : Owns w B e size a n cap xs) : n ≤ cap := by
  rcases h.2 with ⟨h2, h3⟩ | ⟨g, cap', cur, hv, hge, hg, hn', hc, hs, ht⟩
  · omega
  · simp only [Value.slice.injEq] at hv
    omega
theorem Owns.capNone {w : World} {B : Nat} {e : TypeId} {size : Nat} {a : Option Addr} {n cap : Nat} {xs : List Value} (h : Owns w B e size a n cap xs) (ha : a = none) : cap = 0 := by
  rcases h.2 with ⟨h2, h3⟩ | ⟨g, cap', cur, hv, hge, hg, hn', hc, hs, ht⟩
  · simp only [Value.slice.injEq] at h2
    exact h2.2.2
  · simp only [Value.slice.injEq] at hv
    rw [hv.1] at ha
    cases ha
theorem Owns.spot {w : World} {B : Nat} {e : TypeId} {size : Nat} {a : Option Addr} {n cap : Nat} {xs : List Value} (h : Owns w B e size a n cap xs) {ad : Addr} (ha : a = some ad) : ad.spot = none := by
  rcases h.2 with ⟨h2, h3⟩ | ⟨g, cap', cur, hv, hge, hg, hn', hc, hs, ht⟩
  · simp only [Value.slice.injEq] at h2
    rw [h2.1] at ha
    cases ha
  · simp only [Value.slice.injEq] at hv
    rw [hv.1] at ha
    cases ha
    rfl
theorem info3 : (Tryz.prog.info? 3).map (fun i => (i.zero, i.size, i.bytes)) = some (some (.int .i64 0), 1, 8) := by kernel_rfl
theorem info5 : (Tryz.prog.info? 5).map (fun i => (i.zero, i.size, i.bytes)) = some (some (.int .u8 0), 1, 1) := by kernel_rfl
set_option maxHeartbeats 4000000 in
theorem clone44 {w : World} {a : Option Addr} {vs : List Value} (hr : Row w a vs) (h1 : ∀ u ∈ vs, u.oneCell' = true) (hm : vs.length * 1 ≤ 140737488355328) (c : Nat) :
    Calls Tryz.prog 44 #[.slice a vs.length c] w fun e w' => ∃ o co, e = .returned (.slice o vs.length co) ∧ Owns w' w.heap.size 5 1 o vs.length co vs ∧ Kp (fun _ => False) w w' := by
  have HR := Lib.hid hr
  have H1 := Lib.hid h1
  have HM := Lib.hid hm
  have heq := fun w' => Lib.run_eql_slice_nil (P := Tryz.prog) w' 22 5 a vs.length c 0 0 Tryz.underlying22
  cases a with
  | none =>
    have hz : vs = [] := by
      cases vs with
      | nil => rfl
      | cons z r =>
        obtain ⟨_, _, e, _⟩ := hr 0 _ rfl
        cases e
    subst hz
    clear hr h1 hm
    simp only [Option.isNone_none, List.length_nil] at heq
    go_enter Tryz.func44, Tryz.ntmps44
    go_wp2_with fail
    go_ret
    exact ⟨none, 0, rfl, Owns.nil _ _ _ _, Kp.refl _ _⟩
  | some ad =>
    clear hr h1 hm
    obtain ⟨n, hn⟩ : ∃ n, n = vs.length := ⟨_, rfl⟩
    rw [← hn] at heq ⊢
    have HN := Lib.hid hn
    clear hn
    simp only [Option.isNone_some] at heq
    go_enter Tryz.func44, Tryz.ntmps44
    go_wp2_with (at_builtin; refine Stop.mk ?_)
    unfold Stop
    refine wpList_app rfl _ _ 22 rfl w.heap.size 5 info5 Tryz.underlying22 rfl (by decide) rfl (Owns.lit (heap_new w _) (Nat.le_refl _)) rfl (news := vs) (by rw [HN.out]; omega) ((HR.out.no ((Kp.refl _ _).alloc _)).news) H1.out (by have := HM.out; rw [← HN.out] at this; unfold maxLen; omega) (by have := HM.out; rw [← HN.out] at this; omega) (by simp) ?_
    intro a' cap' w' ho hk
    rw [Nat.zero_add, List.nil_append] at ho
    have HO := Lib.hid ho
    have HK := Lib.hid (((Kp.refl (fun _ => False) w).alloc (.cells #[] 5)).andThen hk (fun i hi e => by cases e; exact absurd hi (Nat.lt_irrefl _)))
    clear ho hk
    go_wp2_with fail
    go_ret
    exact ⟨a', cap', by simp, HO.out, HK.out⟩
theorem clone_bytes {w : World} {a : Option Addr} {zs : List Int} (hr : Row w a (bytes zs)) (hm : zs.length ≤ 140737488355328) (c : Nat) :
    Calls Tryz.prog 44 #[.slice a zs.length c] w fun e w' => ∃ o co, e = .returned (.slice o zs.length co) ∧ Owns w' w.heap.size 5 1 o zs.length co (bytes zs) ∧ Kp (fun _ => False) w w' := by
  have h := clone44 hr (one_bytes zs) (by rw [bytes_length]; omega) c
  rw [bytes_length] at h
  exact h

set_option maxHeartbeats 4000000 in
/-- A reader is made. -/
theorem new_any {w : World} {a : Option Addr} {zs : List Int} (hr : Row w a (bytes zs)) (hm : zs.length ≤ 140737488355328) (c : Nat) :
    Calls Tryz.prog 19 #[.slice a zs.length c] w fun e w' => ∃ rb G o co, e = .returned (.pointer (some ⟨rb, 0, none⟩)) ∧ Rdr w' rb G ⟨0, zs⟩ o co ∧ w.heap.size ≤ rb ∧ (∀ g, G = some g → w.heap.size ≤ g) ∧ Kp (fun _ => False) w w' := by
  have HC := Lib.hid (clone_bytes hr hm c)
  clear hr hm
  obtain ⟨n, hn⟩ : ∃ n, n = zs.length := ⟨_, rfl⟩
  rw [← hn] at HC ⊢
  have HN := Lib.hid hn
  clear hn
  go_enter Tryz.func19, Tryz.ntmps19
  go_wp2_with (go_at_call 44; refine (HC.out).mono ?_; rintro e w1 ⟨o, co, rfl, ho, hk⟩; have HO := Lib.hid ho; have HK := Lib.hid hk; clear ho hk)
  go_ret
  have hk2 := HK.out.alloc (.cells #[.int .i64 0, .slice o n co, .bool true] 99)
  refine ⟨w1.heap.size, blockOf o, o, co, rfl, ⟨?_, ?_, fun g hg => hg.symm, ?_, by rw [← HN.out]; exact HO.out.cap, fun e => HO.out.capNone e, fun ad e => HO.out.spot e⟩, HK.out.size, fun g hg => (HO.out.from hg).1, hk2⟩
  · rw [← HN.out]; exact heap_new _ _
  · have h := HO.out.row
    exact h.kp ((Kp.refl (fun _ => False) _).alloc _) (fun _ _ h => h)
  · intro hx
    have := (HO.out.from hx).2
    omega

set_option maxHeartbeats 4000000 in
theorem equal_any {w : World} {a b : Option Addr} {xs ys : List Int} (ha : Row w a (bytes xs)) (hb : Row w b (bytes ys)) (c d : Nat) :
    Calls Tryz.prog 27 #[.slice a xs.length c, .slice b ys.length d] w fun e w' => ∃ v : Bool, e = .returned (.bool v) ∧ (v = true → strOfNums xs = strOfNums ys) ∧ w' = w := by
  have cv1 := ha.str c
  have cv2 := hb.str d
  generalize xs.length = n at cv1 ⊢
  generalize ys.length = m at cv2 ⊢
  generalize strOfNums xs = s at cv1 ⊢
  generalize strOfNums ys = t at cv2 ⊢
  clear ha hb
  go_enter Tryz.func27, Tryz.ntmps27
  go_wp2
  go_ret
  exact ⟨s.toList == t.toList, by simp, str_eq, rfl⟩

set_option maxHeartbeats 4000000 in
/-- Are the same bytes written, or is an error told? -/
theorem kept_any {w : World} {a b : Option Addr} {xs ys : List Int} (e f : Int) (h : e ≠ 0 ∨ (f = 0 ∧ xs = ys ∧ Row w a (bytes xs) ∧ Row w b (bytes ys))) (c d : Nat) :
    Calls Tryz.prog 6 #[.slice a xs.length c, .int .i64 e, .slice b ys.length d, .int .i64 f] w fun r w' => r = .returned (.bool true) ∧ w' = w := by
  by_cases he : e = 0
  · obtain ⟨rfl, rfl, ha, hb⟩ := h.resolve_left (fun h => h he)
    subst he
    have cv1 := ha.str c
    have cv2 := hb.str d
    generalize xs.length = n at cv1 cv2 ⊢
    generalize strOfNums xs = s at cv1 cv2
    clear ha hb h
    go_enter Tryz.func6, Tryz.ntmps6
    go_wp2_with (go_at_call 16; refine (num_any _ _).mono ?_; rintro r w1 ⟨rfl, rfl⟩)
    go_ret
    exact ⟨rfl, rfl⟩
  · clear h
    go_enter Tryz.func6, Tryz.ntmps6
    go_wp2_with (go_at_call 16; refine (num_any _ _).mono ?_; rintro r w1 ⟨rfl, rfl⟩)
    go_ret
    exact ⟨rfl, rfl⟩

/-- At the end of all? -/
theorem end_any {w : World} {rb : Nat} {G : Option Nat} {r : Rd} {a : Option Addr} {c : Nat} (h : Rdr w rb G r a c) :
    Calls Tryz.prog 22 #[.pointer (some ⟨rb, 0, none⟩)] w fun e w' => e = .returned (.int .i64 (if r.e ≠ 0 then r.e else if r.b.length = 0 then 0 else 21)) ∧ w' = w := by
  have HE := Lib.hid (err_any h.blk (e := r.e) rfl rfl)
  have c1 := cell_of h.blk 1 (v := .slice a r.b.length c) rfl
  clear h
  by_cases he : r.e = 0
  · rw [he] at HE
    generalize r.b.length = n at c1 ⊢
    simp only [he, ne_eq, not_true_eq_false, if_false]
    by_cases hn : n = 0
    · subst hn
      go_enter Tryz.func22, Tryz.ntmps22
      go_wp2_with (go_at_call 38; refine (HE.out).mono ?_; rintro r w1 ⟨rfl, rfl⟩)
      go_ret
      exact ⟨rfl, rfl⟩
    · rw [if_neg hn]
      go_enter Tryz.func22, Tryz.ntmps22
      go_wp2_with (go_at_call 38; refine (HE.out).mono ?_; rintro r w1 ⟨rfl, rfl⟩)
      go_ret
      exact ⟨rfl, rfl⟩
  · generalize r.b.length = n at c1 ⊢
    generalize r.e = e at HE he ⊢
    rw [if_pos he]
    go_enter Tryz.func22, Tryz.ntmps22
    go_wp2_with (go_at_call 38; refine (HE.out).mono ?_; rintro r w1 ⟨rfl, rfl⟩)
    go_ret
    exact ⟨rfl, rfl⟩
end Go.Proofs.YtecohkoekifeiaaGreatDoor
namespace Go.Proofs.YtecohkoekifeiaaGreatDoor
open Go.ChangeShapes Go.WideShapes Go.ChangeAt Go.RowKit
set_option linter.unusedVariables false

theorem Owns.blk {w : World} {B : Nat} {e : TypeId} {a : Option Addr} {n cap : Nat} {xs : List Value} (h : Owns w B e 1 a n cap xs) (hn : 0 < n) :
    ∃ g cur, a = some ⟨g, 0, none⟩ ∧ w.heap[g]? = some (.cells cur e (0, 0)) ∧ B ≤ g ∧ n ≤ cur.size ∧ cur.toList.take n = xs := by
  rcases h.2 with ⟨h2, h3⟩ | ⟨g, cap', cur, hv, hge, hg, hn', hc, hs, ht⟩
  · exfalso
    simp only [Value.slice.injEq] at h2
    omega
  · simp only [Value.slice.injEq] at hv
    refine ⟨g, cur, hv.1, hg, hge, ?_, by simpa using ht⟩
    have := h.1
    rw [← ht] at this
    simp at this
    omega
theorem Owns.setAt {w : World} {B : Nat} {e : TypeId} {g n cap : Nat} {xs : List Value} (h : Owns w B e 1 (some ⟨g, 0, none⟩) n cap xs) (i : Nat) (v : Value) :
    Owns (w.setCell ⟨g, i, none⟩ v) B e 1 (some ⟨g, 0, none⟩) n cap (xs.set i v) := by
  refine ⟨by rw [List.length_set]; exact h.1, ?_⟩
  rcases h.2 with ⟨h2, h3⟩ | ⟨g', cap', cur, hv, hge, hg, hn', hc, hs, ht⟩
  · exfalso
    simp only [Value.slice.injEq] at h2
    exact absurd h2.1 (by simp)
  · simp only [Value.slice.injEq, Option.some.injEq, Addr.mk.injEq] at hv
    obtain ⟨⟨rfl, _⟩, _, rfl⟩ := hv
    refine .inr ⟨g, cap, cur.setIfInBounds i v, rfl, hge, heap_set hg i v, ?_, ?_, ?_, ?_⟩
    · exact hn'
    · exact hc
    · simpa using hs
    · rw [Array.toList_setIfInBounds, List.take_set, ht]

theorem Owns.lit1 {w : World} {B : Nat} {e : TypeId} {b : Nat} {v : Value} (h : w.heap[b]? = some (.cells #[v] e (0, 0))) (hB : B ≤ b) : Owns w B e 1 (some ⟨b, 0, none⟩) 1 1 [v] :=
  ⟨by simp, .inr ⟨b, 1, #[v], rfl, hB, h, Nat.le_refl _, by decide, by simp, by simp⟩⟩

theorem le_len {n : Nat} (h : n < 9223372036854775808) : (le n).length ≤ 8 := by
  have key : ∀ (k n : Nat), n < 256 ^ k → (le n).length ≤ k := by
    intro k
    induction k with
    | zero => intro n h; (have : n = 0 := by simpa using h); subst this; simp [le_zero]
    | succ k ih =>
      intro n h
      by_cases h0 : n = 0
      · subst h0; simp [le_zero]
      · rw [le_pos h0, List.length_cons]
        have := ih (n / 256) (Nat.div_lt_of_lt_mul (by rw [Nat.mul_comm, ← Nat.pow_succ]; exact h))
        omega
  exact key 8 n (by have : (256 : Nat) ^ 8 = 18446744073709551616 := by decide
                    omega)

theorem info22 : (Tryz.prog.info? 22).map (fun i => (i.zero, i.size, i.bytes)) = some (some (.slice none 0 0), 1, 24) := by kernel_rfl

set_option maxHeartbeats 4000000 in
theorem number_any (w : World) (n : Nat) (hn : n < 9223372036854775808) :
    Calls Tryz.prog 26 #[.int .i64 n] w fun e w' => ∃ o co, e = .returned (.slice o (enc n).length co) ∧ Owns w' w.heap.size 5 1 o (enc n).length co (bytes (enc n)) ∧ Kp (fun _ => False) w w' := by
  go_enter Tryz.func26, Tryz.ntmps26
  go_wp2_with fail
  go_loopw [0, 3] (fun i o wr => ∃ (m : Nat) (ds : List Int) (g co : Nat), i = .int .i64 m ∧ le n = ds ++ le m ∧ m * 256 ^ ds.length ≤ n ∧ o = .slice (some ⟨g, 0, none⟩) (1 + ds.length) co ∧ Owns wr w.heap.size 5 1 (some ⟨g, 0, none⟩) (1 + ds.length) co (bytes (0 :: ds)) ∧ Kp (fun _ => False) w wr) (fun i _ _ => (intOf i).toNat)
  case atStart => 
    exact ⟨n, [], w.heap.size, _, rfl, rfl, by simp, rfl, Owns.lit1 (heap_new w _) (Nat.le_refl _), (Kp.refl _ _).alloc _⟩
  case round =>
    obtain ⟨m, ds, g, co, rfl, hle, hm, rfl, ho, hK⟩ := hrel
    by_cases hm0 : 0 < m
    · have hds : ds.length ≤ 7 := by
        apply Classical.byContradiction
        intro hx
        have h1 : 256 ^ 8 ≤ 256 ^ ds.length := Nat.pow_le_pow_right (by omega) (by omega)
        have h2 : 256 ^ ds.length ≤ m * 256 ^ ds.length := Nat.le_mul_of_pos_left _ hm0
        have : (256 : Nat) ^ 8 = 18446744073709551616 := by decide
        omega
      have hmI : (0 : Int) < (m : Int) := by omega
      have hmn : m ≤ n := Nat.le_trans (Nat.le_mul_of_pos_right m (Nat.pow_pos (by omega))) hm
      go_wp2_with (at_builtin; refine Stop.mk ?_)
      unfold Stop
      have hsz := hK.size
      refine wpList_app rfl _ _ 22 rfl w.heap.size 5 info5 Tryz.underlying22 rfl (by decide) rfl (Owns.kp ho ((Kp.refl (fun _ => False) _).alloc _) (fun _ _ h => h)) rfl (news := bytes [(m : Int) % 256]) (by simp [bytes]) (fun j u hu => ⟨_, rfl, ?c1⟩) (one_bytes _) (by unfold maxLen; omega) (by omega) (by simp; omega) ?_
      case c1 =>
        match j, hu with
        | 0, hu => simp [bytes] at hu; subst hu; simp [Addr.add]
        | j + 1, hu => simp [bytes] at hu
      intro a' cap' w3 ho3 hk3
      have hK3 : Kp (fun _ => False) w w3 := (hK.alloc (.cells #[.int .u8 ((m : Int) % 256)] 5)).andThen hk3 (fun i hi e => by have := (Owns.from ho e.symm).1; omega)
      have hb : bytes (0 :: ds) ++ bytes [(m : Int) % 256] = bytes (0 :: (ds ++ [(m : Int) % 256])) := by simp [bytes]
      have hl : 1 + ds.length + 1 = 1 + (ds ++ [(m : Int) % 256]).length := by simp; omega
      rw [hb] at ho3
      obtain ⟨g3, cur, rfl, _⟩ := Owns.blk ho3 (by omega)
      have hle3 : le n = (ds ++ [(m : Int) % 256]) ++ le (m / 256) := by
        rw [hle, le_pos (by omega)]
        simp
      have hm3 : m / 256 * 256 ^ (ds ++ [(m : Int) % 256]).length ≤ n := by
        rw [List.length_append, List.length_singleton, Nat.pow_succ, Nat.mul_comm (256 ^ ds.length), ← Nat.mul_assoc]
        exact Nat.le_trans (Nat.mul_le_mul_right _ (Nat.div_mul_le_self m 256)) hm
      have HO := Lib.hid ho3
      have HL := Lib.hid hle3
      have HM := Lib.hid hm3
      have HK := Lib.hid hK3
      have HL2 := Lib.hid hl
      clear hk3 ho hsz hK ho3 hle hle3 hm hm3 hK3 hb hl
      go_wp2
      go_roundw
      case rel => exact ⟨m / 256, ds ++ [(m : Int) % 256], g3, cap', by simp, HL.out, HM.out, by rw [HL2.out], by rw [← HL2.out]; exact HO.out, HK.out⟩
      case measure => simp [intOf]; omega
    · obtain rfl : m = 0 := by omega
      rw [le_zero, List.append_nil] at hle
      obtain ⟨g', cur, e, hg, hB, hsz, htk⟩ := Owns.blk ho (by omega)
      cases e
      have h0 : cur[0]? = some (.int .u8 0) := by
        have : (cur.toList.take (1 + ds.length))[0]? = (bytes (0 :: ds))[0]? := by rw [htk]
        rw [List.getElem?_take_of_lt (by omega)] at this
        simpa [bytes] using this
      have c0 := cell_of hg 0 h0
      have f0 := free_of hg 0
      have hlen : ds.length ≤ 8 := by
        apply Classical.byContradiction
        intro hx
        have h1 : (le n).length ≤ 8 := le_len hn
        rw [hle] at h1
        omega
      have HO := Lib.hid (Owns.setAt ho 0 (.int .u8 (ds.length : Int)))
      have HK := Lib.hid (hK.setCell (p := ⟨g, 0, none⟩) (.inr hB) (.int .u8 (ds.length : Int)))
      have HL := Lib.hid hle
      clear ho hK hle hm hg htk h0 hsz
      have hi : (1 + (ds.length : Int) - 1) = ds.length := by omega
      have hbs : (bytes (0 :: ds)).set 0 (.int .u8 (ds.length : Int)) = bytes ((ds.length : Int) :: ds) := by simp [bytes]
      rw [hbs] at HO
      clear hbs
      go_wp2_with fail
      try rw [hi]
      go_ret
      have henc : enc n = (ds.length : Int) :: ds := by rw [enc, HL.out]
      have hel : (enc n).length = 1 + ds.length := by rw [henc]; simp; omega
      rw [hel, henc]
      exact ⟨some ⟨g, 0, none⟩, co, by first | rfl | simp, HO.out, HK.out⟩

set_option maxHeartbeats 4000000 in
theorem putNumber_good (w : World) (n : Nat) (hn : n < 281474976710656) :
    Calls Tryz.prog 33 #[.int .i64 n] w fun e w' => ∃ o co, e = .returned (.tuple #[.slice o (enc n).length co, .int .i64 0]) ∧ Owns w' w.heap.size 5 1 o (enc n).length co (bytes (enc n)) ∧ Kp (fun _ => False) w w' := by
  have h1 : ¬ ((n : Int) < 0) := by omega
  have h2 : ¬ ((281474976710656 : Int) ≤ n) := by omega
  have HC := Lib.hid (number_any w n (by omega))
  go_enter Tryz.func33, Tryz.ntmps33
  go_wp2_with (go_at_call 26; refine (HC.out).mono ?_; rintro e w1 ⟨o, co, rfl, ho, hk⟩; have HO := Lib.hid ho; have HK := Lib.hid hk; clear ho hk)
  exact bodyPost_ret (v := .tuple #[.slice o (enc n).length co, .int .i64 0]) (by simp [results, Tryz.results33, go_sem]) rfl ⟨o, co, rfl, HO.out, HK.out⟩
set_option maxHeartbeats 4000000 in
theorem putNumber_bad (w : World) (n : Int) (hn : n < 0 ∨ 281474976710656 ≤ n) :
    Calls Tryz.prog 33 #[.int .i64 n] w fun e w' => e = .returned (.tuple #[.slice none 0 0, .int .i64 11]) ∧ w' = w := by
  have hd : (decide (n < 0) || decide (281474976710656 ≤ n)) = true := by simpa using hn
  go_enter Tryz.func33, Tryz.ntmps33
  go_wp2_with fail
  all_goals exact bodyPost_ret (v := .tuple #[.slice none 0 0, .int .i64 11]) (by simp [results, Tryz.results33, go_sem]) rfl ⟨rfl, rfl⟩
end Go.Proofs.YtecohkoekifeiaaGreatDoor
