/-
  append at a step of a region that draws its order: onto a list of one's own, and where the new list lies. No condition but the bound on its bytes.
-/
import Derived.Test.YtjhefbkigmamfaaNw
import Derived.Deep.AppendLies
namespace Go.Proofs.Ytjhefbkigmamfaa
open Go.RowKit
set_option linter.unusedVariables false

theorem step_app {P : Program} {w : World} {ops : Array Oper} {o : Oper} {ac : Act} {K : Act → World → Prop} {Q : Exit → Act → World → Prop} {E : Prop} (hgd : o.guard = none) (s x : Operand) (t : TypeId)
    (ho : o.op = .call { callee := .builtin .append, args := #[s, x], argTypes := #[t, t] })
    (B : Nat) (e : TypeId) {size bytes : Nat} {z : Value} (hinfo : (P.info? e).map (fun i => (i.zero, i.size, i.bytes)) = some (some z, size, bytes)) (ht : P.underlying t = some (.slice e)) (hzs : z.cells.size = size) (hsz : 0 < size)
    {a : Option Addr} {n cap : Nat} {xs : List Value} (hs : ac.eval s = .slice a n cap) (hown : Owns w B e size a n cap xs)
    {ad : Addr} {m c : Nat} {news : List Value} (hx : ac.eval x = .slice (some ad) m c) (hl : news.length = m * size) (hnews : ∀ j u, news[j]? = some u → w.cell? (ad.add j) = some u) (h1 : ∀ u ∈ news, u.oneCell' = true)
    (h63 : n + m ≤ maxLen) (hbytes : (n + m) * bytes ≤ 140737488355328) (hbase : B ≤ w.heap.size)
    (h : ∀ a' cap' w', Owns w' B e size a' (n + m) cap' (xs ++ news) → Kp (fun k => some k = blockOf a) w w' → (blockOf a' = blockOf a ∨ blockOf a' = some w.heap.size) → K (ac.put o.dst (.slice a' (n + m) cap')) w') : if Region.wanted o (yielded ops ac.tmps) = true then Oper.wp P o ac w K Q else E := by
  obtain ⟨i, hi, hz0, hz1, hz2⟩ := info_parts hinfo
  have hw : Region.wanted o (yielded ops ac.tmps) = true := by simp [Region.wanted, hgd]
  rw [if_pos hw]
  obtain ⟨v', w', hr, h2, h3, _, h5⟩ := run_append_own_at (P := P) w B t o.type e i z size bytes ht hi hz0 hz1 hz2 hzs hsz _ n xs hown ad m c news hl hnews h1 h63 hbytes hbase
  obtain ⟨a', cap', rfl, ho'⟩ := Owns.shape h2
  rw [blockOf_own, blockOf_own] at h5
  have hk := Kp.of_grown h3
  rw [blockOf_own] at hk
  unfold Oper.wp execOp
  simp only [ho, resolve, invoke, builtin, Sem.run_bind, Sem.run_pure, Result.andThen_ok, List.map_toArray, List.map_cons, List.map_nil, hs, hx, hr]
  exact h a' cap' w' ho' hk h5
/-- A whole struct is stored, at a step of a region that draws its order. -/
theorem step_store {P : Program} {w : World} {ops : Array Oper} {o : Oper} {ac : Act} {K : Act → World → Prop} {Q : Exit → Act → World → Prop} {E : Prop} (hgd : o.guard = none) (ty : TypeId) (x y : Operand) (ho : o.op = .store ty x y)
    (g : Nat) (cells : Array Value) (hx : ac.eval x = .pointer (some ⟨g, 0, none⟩)) (hy : ac.eval y = .agg cells) {t : TypeId} {old : Array Value} (hg : w.heap[g]? = some (.cells old t (0, 0))) (hi : (P.info? ty).map (·.size) = some cells.size) (hold : old.size = cells.size) (h1 : cells.all (·.oneCell') = true)
    (h : ∀ w', w'.heap[g]? = some (.cells cells t (0, 0)) → Kp (fun k => k = g) w w' → K (ac.put o.dst undef) w') : if Region.wanted o (yielded ops ac.tmps) = true then Oper.wp P o ac w K Q else E := by
  have hw : Region.wanted o (yielded ops ac.tmps) = true := by simp [Region.wanted, hgd]
  rw [if_pos hw]
  refine wp_store_row ty x y ho g cells hx hy t old hg hi hold h1 (h _ ?_ ?_)
  · unfold World.setRow
    show (w.heap.modify g _)[g]? = _
    rw [Array.getElem?_modify, if_pos rfl, hg]
    rfl
  · exact ⟨rfl, rfl, rfl, by simp, fun k _ hn => setRow_other _ _ _ _ hn⟩
/-- The list lies where it lay, or in a new block. -/
def Moved (w : World) (a a' : Option Addr) : Prop := blockOf a' = blockOf a ∨ ∀ g, blockOf a' = some g → w.heap.size ≤ g
theorem Moved.same (w : World) (a : Option Addr) : Moved w a a := Or.inl rfl
theorem Moved.none (w : World) (a : Option Addr) : Moved w a none := Or.inr fun g hg => by cases hg
theorem Moved.old {w0 : World} {b j : Nat} {a0 a : Option Addr} (m : Moved w0 a0 a) (h : Foot b a j) (hj : j < w0.heap.size) : Foot b a0 j := by
  rcases h with h | h
  · exact Or.inl h
  · rcases m with m | m
    · exact Or.inr (m ▸ h)
    · have := m j h.symm
      omega
theorem Moved.next {w0 w : World} {a0 a a' : Option Addr} (m : Moved w0 a0 a) (hs : w0.heap.size ≤ w.heap.size) (m' : Moved w a a') : Moved w0 a0 a' := by
  rcases m' with e | e
  · rcases m with f | f
    · exact Or.inl (e.trans f)
    · exact Or.inr (fun g hg => f g (e ▸ hg))
  · exact Or.inr (fun g hg => by have := e g hg; omega)
theorem info40z : (Try.prog.info? 40).map (fun i => (i.zero, i.size, i.bytes)) = some (some (.agg #[.int .i64 0, .int .i64 0, .int .i64 0, .int .i64 0, .int .i64 0, .int .i64 0, .int .i64 0, .slice none 0 0]), 8, 80) := by kernel_rfl
end Go.Proofs.Ytjhefbkigmamfaa
