/-
  append onto a list of the call's own, whatever is appended: the new list owns what it owned and what came; nothing else has turned. Where the length times the element's bytes is at most 2^47.
-/
import Derived.Test.YtjhefbkigmamfaaBase
import Derived.Deep.AppendSrc
namespace Go.Proofs.Ytjhefbkigmamfaa
open Go.RowKit
set_option linter.unusedVariables false

/-- The list (a, n, cap) owns the cells xs: its block, where it has one, is from B on. -/
def Owns (w : World) (B : Nat) (e : TypeId) (size : Nat) (a : Option Addr) (n cap : Nat) (xs : List Value) : Prop := w.ownsRow B e size (.slice a n cap) n xs
/-- The list's block. -/
def blockOf : Option Addr → Option Nat
  | some a => some a.block
  | none => none

theorem Owns.nil (w : World) (B : Nat) (e : TypeId) (size : Nat) : Owns w B e size none 0 0 [] := World.ownsRow_nil w B e size
theorem Owns.kp {w w' : World} {B : Nat} {e : TypeId} {size : Nat} {a : Option Addr} {n cap : Nat} {xs : List Value} (h : Owns w B e size a n cap xs) {S : Nat → Prop} (k : Kp S w w') (hn : ∀ b, blockOf a = some b → ¬ S b) : Owns w' B e size a n cap xs := by
  refine ⟨h.1, ?_⟩
  rcases h.2 with h2 | ⟨g, cap', cur, hv, hb, hg, r⟩
  · exact .inl h2
  · refine .inr ⟨g, cap', cur, hv, hb, k.heap hg (hn g ?_), r⟩
    simp only [Value.slice.injEq] at hv
    rw [hv.1]
    rfl
theorem Owns.from {w : World} {B : Nat} {e : TypeId} {size : Nat} {a : Option Addr} {n cap : Nat} {xs : List Value} (h : Owns w B e size a n cap xs) {b : Nat} (hb : blockOf a = some b) : B ≤ b ∧ b < w.heap.size := by
  rcases h.2 with ⟨h2, _⟩ | ⟨g, cap', cur, hv, hge, hg, r⟩
  · simp only [Value.slice.injEq] at h2
    rw [h2.1] at hb
    cases hb
  · simp only [Value.slice.injEq] at hv
    rw [hv.1] at hb
    cases hb
    exact ⟨hge, lt_of_block hg⟩
theorem Owns.cell {w : World} {B : Nat} {e : TypeId} {size : Nat} {a : Option Addr} {n cap : Nat} {xs : List Value} (h : Owns w B e size a n cap xs) {j : Nat} {u : Value} (hu : xs[j]? = some u) :
    ∃ g, a = some ⟨g, 0, none⟩ ∧ w.cell? ⟨g, j, none⟩ = some u := by
  have hl := h.1
  rcases h.2 with ⟨_, h0⟩ | ⟨g, cap', cur, hv, hge, hg, hn, hc, hs, ht⟩
  · subst h0
    have : xs = [] := List.eq_nil_of_length_eq_zero (by simpa using hl)
    subst this
    cases hu
  · simp only [Value.slice.injEq] at hv
    refine ⟨g, hv.1, ?_⟩
    rw [World.cell?, hg]
    rw [← ht, List.getElem?_take] at hu
    split at hu
    · simpa using hu
    · cases hu
theorem Owns.shape {w : World} {B : Nat} {e : TypeId} {size : Nat} {v : Value} {n : Nat} {xs : List Value} (h : w.ownsRow B e size v n xs) : ∃ a cap, v = .slice a n cap ∧ Owns w B e size a n cap xs := by
  have h' := h
  rcases h'.2 with ⟨rfl, rfl⟩ | ⟨g, cap', cur, rfl, r⟩
  · exact ⟨none, 0, rfl, h⟩
  · exact ⟨some ⟨g, 0, none⟩, cap', rfl, h⟩
theorem blockOf_own (a : Option Addr) (n cap : Nat) : (Value.slice a n cap).ownBlock = blockOf a := by cases a <;> rfl

theorem wpList_app {P : Program} {w : World} {ops : Array Oper} {rest : List Oper} {o : Oper} {ac : Act} {Q : Exit → Act → World → Prop} (hgd : o.guard = none) (s x : Operand) (t : TypeId)
    (ho : o.op = .call { callee := .builtin .append, args := #[s, x], argTypes := #[t, t] })
    (B : Nat) (e : TypeId) {size bytes : Nat} {z : Value} (hinfo : (P.info? e).map (fun i => (i.zero, i.size, i.bytes)) = some (some z, size, bytes)) (ht : P.underlying t = some (.slice e)) (hzs : z.cells.size = size) (hsz : 0 < size)
    {a : Option Addr} {n cap : Nat} {xs : List Value} (hs : ac.eval s = .slice a n cap) (hown : Owns w B e size a n cap xs)
    {b : Option Addr} {m c : Nat} {news : List Value} (hx : ac.eval x = .slice b m c) (hl : news.length = m * size) (hnews : ∀ j u, news[j]? = some u → ∃ ad, b = some ad ∧ w.cell? (ad.add j) = some u) (h1 : ∀ u ∈ news, u.oneCell' = true)
    (h63 : n + m ≤ maxLen) (hbytes : (n + m) * bytes ≤ 140737488355328) (hbase : B ≤ w.heap.size)
    (h : ∀ a' cap' w', Owns w' B e size a' (n + m) cap' (xs ++ news) → Kp (fun k => some k = blockOf a) w w' → wpList P ops Q rest (ac.put o.dst (.slice a' (n + m) cap')) w') : wpList P ops Q (o :: rest) ac w := by
  obtain ⟨i, hi, hz0, hz1, hz2⟩ := info_parts hinfo
  cases b with
  | some ad =>
    refine wpList_append_own w hgd s x t ho B e i z size bytes ht hi hz0 hz1 hz2 hzs hsz _ n xs hs hown ad m c news hx hl (fun j u hu => ?_) h1 h63 hbytes hbase ?_
    · obtain ⟨ad', e1, h2⟩ := hnews j u hu
      cases e1
      exact h2
    · intro v' w' hown' hg _
      obtain ⟨a', cap', rfl, ho'⟩ := Owns.shape hown'
      refine h a' cap' w' ho' ?_
      have := Kp.of_grown hg
      rw [blockOf_own] at this
      exact this
  | none =>
    have hm0 : news = [] := by
      cases hn : news with
      | nil => rfl
      | cons u r =>
        obtain ⟨ad, e1, _⟩ := hnews 0 u (by rw [hn]; rfl)
        cases e1
    subst hm0
    have hm : m = 0 := by
      have : m * size = 0 := by simpa using hl.symm
      rcases Nat.mul_eq_zero.1 this with h | h <;> omega
    subst hm
    refine wpList_plain hgd fun K hK => ?_
    have hrun : (Builtin.append_ #[t, t] o.type #[.slice a n cap, .slice none 0 c]).run P w = .ok (.slice a n cap) w := by
      rcases hown.2 with ⟨h2, h0⟩ | ⟨g, cap', cur, hv, hge, hg, hn, hc, hs', ht'⟩
      · simp only [Value.slice.injEq] at h2
        obtain ⟨rfl, rfl, rfl⟩ := h2
        simp [Builtin.append_, run_underlying ht, sizeOf, typeInfo, hi, Builtin.lenOf, Builtin.firstCells]
      · simp only [Value.slice.injEq] at hv
        obtain ⟨rfl, _, rfl⟩ := hv
        have := run_append_room_src (P := P) w t t o.type e i ht hi g 0 n cap (.slice none 0 c) 0 [] (Src.ofNil w ht c) (by omega) (by simp) (by simp)
        rw [this]
        rfl
    unfold Oper.wp
    simp [execOp, ho, resolve, invoke, builtin, hs, hx, hrun, Result.andThen]
    exact hK _ _ (by have := h a cap w (by simpa using hown) (Kp.refl _ _); simpa using this)

/-- A walk halts at an operation: 'go_wp2_with (at_builtin; refine Stop.mk ?_)', then 'unfold Stop'. -/
def Stop (p : Prop) : Prop := p
theorem Stop.mk {p : Prop} (h : Stop p) : p := h

/-- An empty list literal. -/
theorem Owns.lit {w : World} {B : Nat} {e : TypeId} {size : Nat} {b : Nat} (h : w.heap[b]? = some (.cells #[] e (0, 0))) (hB : B ≤ b) : Owns w B e size (some ⟨b, 0, none⟩) 0 0 [] :=
  ⟨by simp, .inr ⟨b, 0, #[], rfl, hB, h, Nat.le_refl _, Nat.zero_le _, by simp, by simp⟩⟩
end Go.Proofs.Ytjhefbkigmamfaa
