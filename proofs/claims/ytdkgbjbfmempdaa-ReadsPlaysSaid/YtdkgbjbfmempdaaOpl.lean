/-
  A list of calls of the script, as an argument: each call's five cells. No condition.
-/
import Derived.Test.YtdkgbjbfmempdaaOp
namespace Go.Proofs.Ytdkgbjbfmempdaa
open Go.ChangeShapes Go.WideShapes Go.ChangeAt Go.RowKit Go.Deep
set_option linter.unusedVariables false

/-- A call. -/
structure OpE where
  kind : Int
  A : Int
  B : Int
  C : Int
  x : Option Addr
  zs : List Int
  cx : Nat
instance : Inhabited OpE := ⟨⟨0, 0, 0, 0, none, [], 0⟩⟩
/-- Its cells, at a place. -/
def OpAt (w : World) (b o : Nat) (e : OpE) : Prop :=
  w.cell? ⟨b, o, none⟩ = some (.int .i64 e.kind) ∧ w.cell? ⟨b, o + 1, none⟩ = some (.int .i64 e.A) ∧ w.cell? ⟨b, o + 2, none⟩ = some (.int .i64 e.B) ∧ w.cell? ⟨b, o + 3, none⟩ = some (.int .i64 e.C) ∧ w.cell? ⟨b, o + 4, none⟩ = some (.slice e.x e.zs.length e.cx)
def Ops (w : World) (a : Option Addr) (n : Nat) (O : Nat → OpE) : Prop := ∀ k, k < n → ∃ b off, a = some ⟨b, off, none⟩ ∧ OpAt w b (off + k * 5) (O k) ∧ Ints w (O k).x (O k).zs
theorem Ops.kp {W w : World} {a : Option Addr} {n : Nat} {O : Nat → OpE} (h : Ops W a n O) (hk : Kp (fun k => W.heap.size ≤ k) W w) {k : Nat} (hlt : k < n) : ∃ b off, b < W.heap.size ∧ a = some ⟨b, off, none⟩ ∧ OpAt w b (off + k * 5) (O k) ∧ Ints W (O k).x (O k).zs := by
  obtain ⟨b, off, e, ⟨h0, h1, h2, h3, h4⟩, hI⟩ := h k hlt
  have hb := World.block_lt_of_cell? W _ h0
  have key : ∀ o, w.cell? ⟨b, o, none⟩ = W.cell? ⟨b, o, none⟩ := fun o => hk.cell (p := ⟨b, o, none⟩) hb (by show ¬ W.heap.size ≤ b; exact Nat.not_le.2 hb)
  exact ⟨b, off, hb, e, ⟨(key _).trans h0, (key _).trans h1, (key _).trans h2, (key _).trans h3, (key _).trans h4⟩, hI⟩

theorem open_op_cells {H : Type} {enc : TypeId × Value → H} {W : World} {fuel : Nat} {cs : List Value} {y : DataW H × List MemPlace} (h : DataW.trod enc Try.prog W 0 (fun _ => true) true fuel 32 cs = some y) :
    ∃ e : OpE, cs[0]? = some (.int .i64 e.kind) ∧ cs[1]? = some (.int .i64 e.A) ∧ cs[2]? = some (.int .i64 e.B) ∧ cs[3]? = some (.int .i64 e.C) ∧ cs[4]? = some (.slice e.x e.zs.length e.cx) ∧ Ints W e.x e.zs := by
  obtain ⟨hsz, n, hg⟩ := open_fields Try.underlying32 (by kernel_rfl) h
  obtain ⟨c0, _, e0, t0⟩ := hg 0 _ rfl (by kernel_rfl)
  obtain ⟨c1, _, e1, t1⟩ := hg 1 _ rfl (by kernel_rfl)
  obtain ⟨c2, _, e2, t2⟩ := hg 2 _ rfl (by kernel_rfl)
  obtain ⟨c3, _, e3, t3⟩ := hg 3 _ rfl (by kernel_rfl)
  obtain ⟨c4, _, e4, t4⟩ := hg 4 _ rfl (by kernel_rfl)
  obtain ⟨z0, rfl, _⟩ := open_cell_int Try.underlying3 t0
  obtain ⟨z1, rfl, _⟩ := open_cell_int Try.underlying3 t1
  obtain ⟨z2, rfl, _⟩ := open_cell_int Try.underlying3 t2
  obtain ⟨z3, rfl, _⟩ := open_cell_int Try.underlying3 t3
  obtain ⟨x, zs, cx, rfl, hI, _⟩ := open_il_cell t4
  exact ⟨⟨z0, z1, z2, z3, x, zs, cx⟩, e0, e1, e2, e3, e4, hI⟩

theorem open_ops {H : Type} {enc : TypeId × Value → H} {W : World} {base : Nat} {v : Value} {d : DataW H} {p : List MemPlace} (ho : Value.okWide Try.prog W .any base 22 v)
    (h : DataW.Trod enc Try.prog W 0 (fun _ => true) true 22 v d p) : ∃ a n cap O, v = .slice a n cap ∧ Ops W a n O ∧ n ≤ maxLen := by
  obtain ⟨a0, len, cap, rfl⟩ := okWide_slice Try.underlying22 ho
  obtain ⟨fuel, hf⟩ := h
  have h5 : Try.prog.cellsOf 32 = 5 := by kernel_rfl
  obtain ⟨a, len', cap', e, hlc, hcm, hel⟩ := open_elems Try.underlying22 (by rw [h5]; decide) (show DataW.trod enc Try.prog W 0 (fun _ => true) true fuel 22 [.slice a0 len cap] = some (d, p) from hf)
  cases e
  have key : ∀ k, k < len → ∃ e : OpE, ∃ b off, a0 = some ⟨b, off, none⟩ ∧ OpAt W b (off + k * 5) e ∧ Ints W e.x e.zs := by
    intro k hk
    obtain ⟨b, off, cs, n, y, ha, hl, hc, ht⟩ := hel k hk
    rw [h5] at hl hc
    obtain ⟨e, e0, e1, e2, e3, e4, hI⟩ := open_op_cells ht
    have hc0 := hc 0 (by omega)
    rw [Nat.add_zero] at hc0
    exact ⟨e, b, off, ha, ⟨hc0.trans e0, (hc 1 (by omega)).trans e1, (hc 2 (by omega)).trans e2, (hc 3 (by omega)).trans e3, (hc 4 (by omega)).trans e4⟩, hI⟩
  obtain ⟨O, hO⟩ := choose_lt key
  exact ⟨a0, len, cap, O, rfl, hO, Nat.le_trans hlc hcm⟩
end Go.Proofs.Ytdkgbjbfmempdaa
