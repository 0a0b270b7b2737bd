/-
  A list of calls of the script, as an argument, with the bound on the lengths of the lists inside it that the reach gives. No condition.
-/
import Derived.Test.YtdkgbjbfmempdaaOpl
namespace Go.Proofs.Ytdkgbjbfmempdaa
open Go.ChangeShapes Go.WideShapes Go.ChangeAt Go.RowKit Go.Deep
set_option linter.unusedVariables false

theorem mem_weightsAll {H : Type} {P : Program} {e : TypeId} {x : Nat} {d : DataW H} (hx : x ∈ d.weights P e) : ∀ {ds : List (DataW H)}, d ∈ ds → x ∈ DataW.weightsAll P e ds
  | [], h => by cases h
  | y :: r, h => by
    unfold DataW.weightsAll
    rw [List.mem_append]
    rcases List.mem_cons.1 h with rfl | h
    · exact .inl hx
    · exact .inr (mem_weightsAll hx h)

theorem op_cells_w {H : Type} {enc : TypeId × Value → H} {W : World} {fuel : Nat} {cs : List Value} {y : DataW H × List MemPlace} (h : DataW.trod enc Try.prog W 0 (fun _ => true) true fuel 32 cs = some y) :
    ∃ e : OpE, cs[0]? = some (.int .i64 e.kind) ∧ cs[1]? = some (.int .i64 e.A) ∧ cs[2]? = some (.int .i64 e.B) ∧ cs[3]? = some (.int .i64 e.C) ∧ cs[4]? = some (.slice e.x e.zs.length e.cx) ∧ Ints W e.x e.zs ∧
      (e.zs = [] ∨ ∃ parts el sp, y.1 = .agg parts ∧ parts[4]? = some (.slice el sp) ∧ el.length = e.zs.length) := by
  obtain ⟨xs, n, _, hy, hl, hlen, hg⟩ := DataW.trod_struct Try.underlying32 h
  have h1 : ∀ t : TypeId, t = 3 ∨ t = 23 → Try.prog.cellsOf t = 1 := by
    rintro t (rfl | rfl) <;> kernel_rfl
  have hc5 : cs.length = 5 := hl.trans (by kernel_rfl)
  match cs, hc5 with
  | [c0, c1, c2, c3, c4], _ =>
    have hx : xs.length = 5 := hlen
    match xs, hx with
    | [x0, x1, x2, x3, x4], _ =>
      have t0 : DataW.trod enc Try.prog W 0 (fun _ => true) true n 3 [c0] = some x0 := by
        have e : List.take (Try.prog.cellsOf 3) (List.drop 0 [c0, c1, c2, c3, c4]) = [c0] := by rw [h1 3 (.inl rfl)]; rfl
        exact (congrArg (fun q => DataW.trod enc Try.prog W 0 (fun _ => true) true n 3 q) e).symm.trans (hg 0 _ rfl)
      have t1 : DataW.trod enc Try.prog W 0 (fun _ => true) true n 3 [c1] = some x1 := by
        have e : List.take (Try.prog.cellsOf 3) (List.drop 1 [c0, c1, c2, c3, c4]) = [c1] := by rw [h1 3 (.inl rfl)]; rfl
        exact (congrArg (fun q => DataW.trod enc Try.prog W 0 (fun _ => true) true n 3 q) e).symm.trans (hg 1 _ rfl)
      have t2 : DataW.trod enc Try.prog W 0 (fun _ => true) true n 3 [c2] = some x2 := by
        have e : List.take (Try.prog.cellsOf 3) (List.drop 2 [c0, c1, c2, c3, c4]) = [c2] := by rw [h1 3 (.inl rfl)]; rfl
        exact (congrArg (fun q => DataW.trod enc Try.prog W 0 (fun _ => true) true n 3 q) e).symm.trans (hg 2 _ rfl)
      have t3 : DataW.trod enc Try.prog W 0 (fun _ => true) true n 3 [c3] = some x3 := by
        have e : List.take (Try.prog.cellsOf 3) (List.drop 3 [c0, c1, c2, c3, c4]) = [c3] := by rw [h1 3 (.inl rfl)]; rfl
        exact (congrArg (fun q => DataW.trod enc Try.prog W 0 (fun _ => true) true n 3 q) e).symm.trans (hg 3 _ rfl)
      have t4 : DataW.trod enc Try.prog W 0 (fun _ => true) true n 23 [c4] = some x4 := by
        have e : List.take (Try.prog.cellsOf 23) (List.drop 4 [c0, c1, c2, c3, c4]) = [c4] := by rw [h1 23 (.inr rfl)]; rfl
        exact (congrArg (fun q => DataW.trod enc Try.prog W 0 (fun _ => true) true n 23 q) e).symm.trans (hg 4 _ rfl)
      obtain ⟨z0, rfl, _⟩ := open_cell_int Try.underlying3 t0
      obtain ⟨z1, rfl, _⟩ := open_cell_int Try.underlying3 t1
      obtain ⟨z2, rfl, _⟩ := open_cell_int Try.underlying3 t2
      obtain ⟨z3, rfl, _⟩ := open_cell_int Try.underlying3 t3
      obtain ⟨x, zs, cx, rfl, hI, hz⟩ := open_il_cell t4
      refine ⟨⟨z0, z1, z2, z3, x, zs, cx⟩, rfl, rfl, rfl, rfl, rfl, hI, ?_⟩
      rcases hz with hz | ⟨el, sp, e1, e2⟩
      · exact .inl hz
      · exact .inr ⟨_, el, sp, by rw [hy], by simpa using e1, e2⟩

theorem open_ops_w {H : Type} {enc : TypeId × Value → H} {W : World} {base : Nat} {v : Value} {d : DataW H} {p : List MemPlace} (ho : Value.okWide Try.prog W .any base 22 v)
    (h : DataW.Trod enc Try.prog W 0 (fun _ => true) true 22 v d p) (hw : ∀ x ∈ d.weights Try.prog 22, x ≤ reachBytes) : ∃ a n cap O, v = .slice a n cap ∧ Ops W a n O ∧ n ≤ maxLen ∧ ∀ k, k < n → (O k).zs.length ≤ 17592186043904 := by
  obtain ⟨a0, len, cap, rfl⟩ := okWide_slice Try.underlying22 ho
  obtain ⟨fuel, hf⟩ := h
  have h5 : Try.prog.cellsOf 32 = 5 := by kernel_rfl
  have hf' : DataW.trod enc Try.prog W 0 (fun _ => true) true fuel 22 [.slice a0 len cap] = some (d, p) := hf
  rcases open_slice Try.underlying22 hf' with ⟨hcs, _⟩ | ⟨a, len', cap', m, n, D, Pl, hcs, _, hl, hm, hmm, hx, hel⟩
  · simp at hcs
    obtain ⟨rfl, rfl, rfl⟩ := hcs
    exact ⟨none, 0, 0, fun _ => default, rfl, fun k hk => absurd hk (Nat.not_lt_zero _), Nat.zero_le _, fun k hk => absurd hk (Nat.not_lt_zero _)⟩
  · obtain ⟨_, _, _, e, _, _, hel2⟩ := open_elems Try.underlying22 (by rw [h5]; decide) hf'
    cases e
    simp at hcs
    obtain ⟨rfl, rfl, rfl⟩ := hcs
    have hlm : len ≤ m := by rw [hmm]; split <;> omega
    have key : ∀ k, k < len → ∃ e : OpE, (∃ b off, some a = some (⟨b, off, none⟩ : Addr) ∧ OpAt W b (off + k * 5) e ∧ Ints W e.x e.zs) ∧ e.zs.length ≤ 17592186043904 := by
      intro k hk
      obtain ⟨cs, hc, ht⟩ := hel k (by omega)
      obtain ⟨b, off, _, _, _, ha, _, _, _⟩ := hel2 k hk
      cases ha
      rw [h5] at hc
      obtain ⟨_, hcl, hat⟩ := World.cells?_some hc
      obtain ⟨e, e0, e1, e2, e3, e4, hI, hz⟩ := op_cells_w ht
      have hat' : ∀ j, j < 5 → W.cell? ⟨b, off + k * 5 + j, none⟩ = cs[j]? := fun j hj => by
        have := hat j hj
        rw [add_plain, add_plain] at this
        exact this
      have hc0 := hat' 0 (by omega)
      rw [Nat.add_zero] at hc0
      refine ⟨e, ⟨b, off, rfl, ⟨hc0.trans e0, (hat' 1 (by omega)).trans e1, (hat' 2 (by omega)).trans e2, (hat' 3 (by omega)).trans e3, (hat' 4 (by omega)).trans e4⟩, hI⟩, ?_⟩
      rcases hz with hz | ⟨parts, el, sp, q1, q2, q3⟩
      · rw [hz]; simp
      · have hmem : (el.length + sp.length) * Try.prog.bytesOf 3 ∈ d.weights Try.prog 22 := by
          have hd : d = .slice ((List.range len).map D) ((List.range (m - len)).map fun j => D (len + j)) := congrArg Prod.fst hx
          rw [hd]
          simp only [DataW.weights, Try.underlying22]
          refine List.mem_cons_of_mem _ (List.mem_append_left _ (mem_weightsAll (d := D k) ?_ (List.mem_map.2 ⟨k, List.mem_range.2 hk, rfl⟩)))
          rw [show D k = .agg parts from q1]
          simp only [DataW.weights, Try.underlying32]
          refine DataW.weights_mem_each (j := 4) (t := 23) rfl q2 _ ?_
          simp [DataW.weights, Try.underlying23]
        have hb := hw _ hmem
        rw [show Try.prog.bytesOf 3 = 8 by kernel_rfl, show reachBytes = 140737488351232 by decide] at hb
        omega
    obtain ⟨O, hO⟩ := choose_lt key
    exact ⟨some a, len, cap, O, rfl, fun k hk => (hO k hk).1, Nat.le_trans hl hm, fun k hk => (hO k hk).2⟩
end Go.Proofs.Ytdkgbjbfmempdaa
