/-
  A call of the script, as an argument: its five cells; and a list of ints in a cell that is read. No condition.
-/
import Derived.Test.YtdkgbjbfmempdaaIl
namespace Go.Proofs.Ytdkgbjbfmempdaa
open Go.ChangeShapes Go.WideShapes Go.ChangeAt Go.RowKit Go.Deep
set_option linter.unusedVariables false

theorem open_il_cell {H : Type} {enc : TypeId × Value → H} {W : World} {fuel : Nat} {c : Value} {y : DataW H × List MemPlace} (hf' : DataW.trod enc Try.prog W 0 (fun _ => true) true fuel 23 [c] = some y) :
    ∃ a zs cap, c = .slice a zs.length cap ∧ Ints W a zs ∧ (zs = [] ∨ ∃ el sp, y.1 = .slice el sp ∧ el.length = zs.length) := by
  have h3 : Try.prog.cellsOf 3 = 1 := by kernel_rfl
  obtain ⟨a0, len, cap, rfl, _, _, hel⟩ := open_elems Try.underlying23 (by rw [h3]; exact Nat.one_pos) hf'
  have key : ∀ i, i < len → ∃ z : Int, ∃ b off, a0 = some ⟨b, off, none⟩ ∧ W.cell? ⟨b, off + i, none⟩ = some (.int .i64 z) := by
    intro i hi
    obtain ⟨b, off, cs, n, y, ha, hl, hc, ht⟩ := hel i hi
    rw [h3] at hl hc
    match cs, hl with
    | [c], _ =>
      obtain ⟨z, rfl, _⟩ := open_cell_int Try.underlying3 ht
      have := hc 0 (by omega)
      exact ⟨z, b, off, ha, by simpa using this⟩
  obtain ⟨Z, hZ⟩ := choose_lt key
  have hlen : ((List.range len).map Z).length = len := by simp
  refine ⟨a0, (List.range len).map Z, cap, by rw [hlen], ?_, ?_⟩
  · intro i hi
    rw [hlen] at hi
    obtain ⟨b, off, ha, hc⟩ := hZ i hi
    exact ⟨b, off, ha, by rw [hc]; simp [List.getD, hi]⟩
  · rcases open_slice Try.underlying23 hf' with ⟨hcs, _⟩ | ⟨a, len', cap', m, n, D, Pl, hcs, _, _, _, _, hx, _⟩
    · left
      simp at hcs
      simp [hcs.2.1]
    · right
      simp at hcs
      obtain ⟨_, rfl, _⟩ := hcs
      subst hx
      exact ⟨_, _, rfl, by simp⟩

/-- The five cells of a call. -/
def vOp (kind A B C : Int) (x : Option Addr) (n cx : Nat) : Value := .agg #[.int .i64 kind, .int .i64 A, .int .i64 B, .int .i64 C, .slice x n cx]
theorem open_op {H : Type} {enc : TypeId × Value → H} {W : World} {base : Nat} {v : Value} {d : DataW H} {p : List MemPlace} (ho : Value.okWide Try.prog W .any base 32 v)
    (h : DataW.Trod enc Try.prog W 0 (fun _ => true) true 32 v d p) : ∃ kind A B C x zs cx, v = vOp kind A B C x (zs : List Int).length cx ∧ Ints W x zs := by
  obtain ⟨cs, rfl, hsz, n, hg⟩ := open_struct Try.underlying32 (by kernel_rfl) ho h
  have hs : cs.size = 5 := hsz.trans (by kernel_rfl)
  obtain ⟨c0, _, e0, t0⟩ := hg 0 _ rfl (by kernel_rfl)
  obtain ⟨c1, _, e1, t1⟩ := hg 1 _ rfl (by kernel_rfl)
  obtain ⟨c2, _, e2, t2⟩ := hg 2 _ rfl (by kernel_rfl)
  obtain ⟨c3, _, e3, t3⟩ := hg 3 _ rfl (by kernel_rfl)
  obtain ⟨c4, _, e4, t4⟩ := hg 4 _ rfl (by kernel_rfl)
  obtain ⟨z0, rfl, _⟩ := open_cell_int Try.underlying3 t0
  obtain ⟨z1, rfl, _⟩ := open_cell_int Try.underlying3 t1
  obtain ⟨z2, rfl, _⟩ := open_cell_int Try.underlying3 t2
  obtain ⟨z3, rfl, _⟩ := open_cell_int Try.underlying3 t3
  obtain ⟨x, zs, cx, rfl, hI, _⟩ := open_il_cell t4
  refine ⟨z0, z1, z2, z3, x, zs, cx, ?_, hI⟩
  unfold vOp
  congr 1
  apply Array.ext_getElem?
  intro j
  match j with
  | 0 => simpa using e0
  | 1 => simpa using e1
  | 2 => simpa using e2
  | 3 => simpa using e3
  | 4 => simpa using e4
  | j + 5 => simp [Array.getElem?_eq_none (show cs.size ≤ j + 5 by omega)]
end Go.Proofs.Ytdkgbjbfmempdaa
