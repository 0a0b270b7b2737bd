/-
  A list's elements and a struct's fields as arguments, with the bounds that the reach gives; orders, answers and calls of the script, as arguments. No condition.
-/
import Derived.Test.YtjhefbkigmamfaaIl
namespace Go.Proofs.Ytjhefbkigmamfaa
open Go.ChangeShapes Go.WideShapes Go.ChangeAt Go.RowKit Go.Deep
set_option linter.unusedVariables false

section
variable {H : Type} {enc : TypeId × Value → H} {P : Program} {w : World} {base : Nat} {spare : Nat → Bool} {held : Bool}
theorem mem_weightsAll {e : TypeId} {x : Nat} {d : DataW H} (hx : x ∈ d.weights P e) : ∀ {ds : List (DataW H)}, d ∈ ds → x ∈ DataW.weightsAll P e ds
  | [], h => by cases h
  | y :: r, h => by
    unfold DataW.weightsAll
    rw [List.mem_append]
    rcases List.mem_cons.1 h with rfl | h
    · exact .inl hx
    · exact .inr (mem_weightsAll hx h)
/-- A struct's fields: each with its cells, its own reading and its weights. -/
theorem fields_w {t : TypeId} {fs : Array Field} {fuel : Nat} {cs : List Value} {x : DataW H × List MemPlace} (hs : P.underlying t = some (.struct fs)) (h : DataW.trod enc P w base spare held fuel t cs = some x) :
    cs.length = P.cellsOf t ∧ ∃ n, ∀ (j : Nat) (u : TypeId) (o : Nat), (fs[j]?.map fun f => (f.type, f.offset)) = some (u, o) → ∃ y, DataW.trod enc P w base spare held n u ((cs.drop o).take (P.cellsOf u)) = some y ∧ ∀ z ∈ y.1.weights P u, z ∈ x.1.weights P t := by
  obtain ⟨xs, n, _, hx, hl, hlen, hg⟩ := DataW.trod_struct hs h
  refine ⟨hl, n, fun j u o hjo => ?_⟩
  obtain ⟨f, hj, hf⟩ := Option.map_eq_some_iff.1 hjo
  simp only [Prod.mk.injEq] at hf
  obtain ⟨rfl, rfl⟩ := hf
  have hjl := (Array.getElem?_eq_some_iff.1 hj).1
  refine ⟨xs[j], (hg j f hj).trans (List.getElem?_eq_getElem (by omega)), fun z hz => ?_⟩
  rw [hx]
  simp only [DataW.weights, hs]
  refine DataW.weights_mem_each (j := j) (t := f.type) (d := (xs[j]).1) ?_ ?_ z hz
  · rw [List.getElem?_map, Array.getElem?_toList, hj]; rfl
  · rw [List.getElem?_map, List.getElem?_eq_getElem (by omega)]; rfl
/-- A list's elements: each with its cells, its own reading and its weights; the list's own weight. -/
theorem elems_w {t e : TypeId} {fuel : Nat} {v : Value} {x : DataW H × List MemPlace} (ht : P.underlying t = some (.slice e)) (hpos : 0 < P.cellsOf e) (h : DataW.trod enc P w base spare held fuel t [v] = some x) :
    ∃ a len cap, v = .slice a len cap ∧ len ≤ cap ∧ cap ≤ maxLen ∧ (∀ M, (∀ z ∈ x.1.weights P t, z ≤ M) → len * P.bytesOf e ≤ M) ∧ ∀ i, i < len → ∃ b off cs n y, a = some ⟨b, off, none⟩ ∧ cs.length = P.cellsOf e ∧
      (∀ j, j < P.cellsOf e → w.cell? ⟨b, off + i * P.cellsOf e + j, none⟩ = cs[j]?) ∧ DataW.trod enc P w base spare held n e cs = some y ∧ ∀ z ∈ y.1.weights P e, z ∈ x.1.weights P t := by
  rcases open_slice ht h with ⟨hcs, _⟩ | ⟨a, len, cap, m, n, D, Pl, hcs, hb, hl, hm, hmm, hX, hx⟩
  · simp at hcs
    subst hcs
    exact ⟨none, 0, 0, rfl, Nat.le_refl _, Nat.zero_le _, fun M _ => by rw [Nat.zero_mul]; exact Nat.zero_le _, fun i hi => absurd hi (Nat.not_lt_zero _)⟩
  · simp at hcs
    subst hcs
    have hlm : len ≤ m := by rw [hmm]; split <;> omega
    have hd : x.1 = .slice ((List.range len).map D) ((List.range (m - len)).map fun j => D (len + j)) := congrArg Prod.fst hX
    refine ⟨some a, len, cap, rfl, hl, hm, fun M hM => ?_, fun i hi => ?_⟩
    · have hmem : (len + (m - len)) * P.bytesOf e ∈ x.1.weights P t := by
        rw [hd]
        simp only [DataW.weights, ht]
        simp
      exact Nat.le_trans (Nat.mul_le_mul_right _ (by omega)) (hM _ hmem)
    · obtain ⟨cs, hc, hy⟩ := hx i (by omega)
      obtain ⟨cs0, hc0, _⟩ := hx 0 (by omega)
      obtain ⟨_, hlen, hat⟩ := World.cells?_some hc
      obtain ⟨_, hlen0, hat0⟩ := World.cells?_some hc0
      obtain ⟨b, off, sp⟩ := a
      have hsp : sp = none := by
        have h0 := hat0 0 hpos
        rw [add_add, Nat.zero_mul, Nat.zero_add, List.getElem?_eq_getElem (by omega)] at h0
        exact spot_none (a := ⟨b, off, sp⟩) h0 rfl
      subst hsp
      refine ⟨b, off, cs, n, _, rfl, hlen, fun j hj => ?_, hy, fun z hz => ?_⟩
      · have := hat j hj
        rw [add_plain, add_plain] at this
        exact this
      · rw [hd]
        simp only [DataW.weights, ht]
        exact List.mem_cons_of_mem _ (List.mem_append_left _ (mem_weightsAll (d := D i) hz (List.mem_map.2 ⟨i, List.mem_range.2 hi, rfl⟩)))
end

def Byt (l : List Int) : Prop := ∀ z ∈ l, 0 ≤ z ∧ z < 256
def Reaches {H : Type} (t : TypeId) (d : DataW H) : Prop := ∀ z ∈ d.weights Try.prog t, z ≤ reachBytes
theorem bytes_cell {H : Type} {enc : TypeId × Value → H} {W : World} {fuel : Nat} {c : Value} {y : DataW H × List MemPlace} (h : DataW.trod enc Try.prog W 0 (fun _ => true) true fuel 30 [c] = some y) :
    ∃ a zs cap, c = .slice a zs.length cap ∧ Row W a (bytes zs) ∧ Byt zs ∧ (Reaches 30 y.1 → zs.length ≤ 140737488351232) := by
  have h1 : Try.prog.cellsOf 5 = 1 := by kernel_rfl
  have hb : Try.prog.bytesOf 5 = 1 := by kernel_rfl
  obtain ⟨a0, len, cap, rfl, _, _, hw, hel⟩ := elems_w Try.underlying30 (by rw [h1]; exact Nat.one_pos) h
  have key : ∀ i, i < len → ∃ z : Int, (∃ b off, a0 = some ⟨b, off, none⟩ ∧ W.cell? ⟨b, off + i, none⟩ = some (.int .u8 z)) ∧ 0 ≤ z ∧ z < 256 := by
    intro i hi
    obtain ⟨b, off, cs, n, y, ha, hl, hc, ht, _⟩ := hel i hi
    rw [h1] at hl hc
    match cs, hl with
    | [c], _ =>
      obtain ⟨z, rfl, hz⟩ := open_cell_int Try.underlying5 ht
      have := hc 0 (by omega)
      simp [Lit.wf, IntKind.min, IntKind.max, IntKind.signed, IntKind.bits] at hz
      exact ⟨z, ⟨b, off, ha, by simpa using this⟩, by omega, by omega⟩
  obtain ⟨Z, hZ⟩ := choose_lt key
  have hlen : ((List.range len).map Z).length = len := by simp
  refine ⟨a0, (List.range len).map Z, cap, by rw [hlen], ?_, ?_, fun hR => ?_⟩
  · intro i v hv
    have hi : i < len := by
      have := (List.getElem?_eq_some_iff.1 hv).1
      simpa [bytes] using this
    obtain ⟨⟨b, off, ha, hc⟩, _⟩ := hZ i hi
    refine ⟨b, off, ha, hc.trans ?_⟩
    rw [← hv]
    simp [bytes, hi]
  · intro z hz
    obtain ⟨i, hi, rfl⟩ := List.mem_map.1 hz
    exact (hZ i (List.mem_range.1 hi)).2
  · have := hw _ hR
    rw [hb, show reachBytes = 140737488351232 by decide] at this
    rw [hlen]; omega
theorem recs_cell {H : Type} {enc : TypeId × Value → H} {W : World} {fuel : Nat} {c : Value} {y : DataW H × List MemPlace} (h : DataW.trod enc Try.prog W 0 (fun _ => true) true fuel 45 [c] = some y) :
    ∃ (a : Option Addr) (rl : List RecV) (cap : Nat), c = .slice a rl.length cap ∧ Row W a (rl.map RecV.val) ∧ (∀ r ∈ rl, Row W r.a (bytes r.d) ∧ Byt r.d) ∧ (Reaches 45 y.1 → rl.length * 24 ≤ 140737488351232 ∧ ∀ r ∈ rl, r.d.length ≤ 140737488351232) := by
  have h1 : Try.prog.cellsOf 30 = 1 := by kernel_rfl
  have hb : Try.prog.bytesOf 30 = 24 := by kernel_rfl
  obtain ⟨a0, len, cap, rfl, _, _, hw, hel⟩ := elems_w Try.underlying45 (by rw [h1]; exact Nat.one_pos) h
  haveI : Inhabited RecV := ⟨⟨none, [], 0⟩⟩
  have key : ∀ i, i < len → ∃ r : RecV, (∃ b off, a0 = some ⟨b, off, none⟩ ∧ W.cell? ⟨b, off + i, none⟩ = some r.val) ∧ (Row W r.a (bytes r.d) ∧ Byt r.d) ∧ (Reaches 45 y.1 → r.d.length ≤ 140737488351232) := by
    intro i hi
    obtain ⟨b, off, cs, n, y', ha, hl, hc, ht, hz⟩ := hel i hi
    rw [h1] at hl hc
    match cs, hl with
    | [c], _ =>
      obtain ⟨a, zs, cap, rfl, hr, hB, hM⟩ := bytes_cell ht
      have := hc 0 (by omega)
      exact ⟨⟨a, zs, cap⟩, ⟨b, off, ha, by simpa [RecV.val] using this⟩, ⟨hr, hB⟩, fun hR => hM (fun z h => hR z (hz z h))⟩
  obtain ⟨Z, hZ⟩ := choose_lt key
  have hlen : ((List.range len).map Z).length = len := by simp
  refine ⟨a0, (List.range len).map Z, cap, by rw [hlen], ?_, ?_, fun hR => ⟨?_, ?_⟩⟩
  · intro i v hv
    have hi : i < len := by
      have := (List.getElem?_eq_some_iff.1 hv).1
      simpa using this
    obtain ⟨⟨b, off, ha, hc⟩, _⟩ := hZ i hi
    refine ⟨b, off, ha, hc.trans ?_⟩
    rw [← hv]
    simp [hi]
  · intro r hr
    obtain ⟨i, hi, rfl⟩ := List.mem_map.1 hr
    exact (hZ i (List.mem_range.1 hi)).2.1
  · have := hw _ hR
    rw [hb, show reachBytes = 140737488351232 by decide] at this
    rw [hlen]; omega
  · intro r hr
    obtain ⟨i, hi, rfl⟩ := List.mem_map.1 hr
    exact (hZ i (List.mem_range.1 hi)).2.2 hR

/-- A call of the script. -/
structure OpE where
  kind : Int
  o : OrdV
  a : AnsV
def OpE.cells (e : OpE) : List Value := [.int .i64 e.kind, .int .i64 e.o.kind, .int .i64 e.o.from_, .int .i64 e.o.most, .slice e.o.da e.o.dl.length e.o.dc, .int .i64 e.a.id, .int .i64 e.a.e, .int .i64 e.a.session, .int .i64 e.a.number, .int .i64 e.a.leader, .slice e.a.ra e.a.rl.length e.a.rc]
/-- Its lists, as memory holds them. -/
structure OpE.In (W : World) (e : OpE) : Prop where
  d : Row W e.o.da (bytes e.o.dl)
  db : Byt e.o.dl
  r : Row W e.a.ra (e.a.rl.map RecV.val)
  i : ∀ q ∈ e.a.rl, Row W q.a (bytes q.d) ∧ Byt q.d
/-- Its lists' lengths. -/
structure OpE.Sz (e : OpE) : Prop where
  d : e.o.dl.length ≤ 140737488351232
  r : e.a.rl.length * 24 ≤ 140737488351232
  i : ∀ q ∈ e.a.rl, q.d.length ≤ 140737488351232
theorem op_cells {H : Type} {enc : TypeId × Value → H} {W : World} {fuel : Nat} {cs : List Value} {y : DataW H × List MemPlace} (h : DataW.trod enc Try.prog W 0 (fun _ => true) true fuel 58 cs = some y) :
    ∃ e : OpE, cs = e.cells ∧ e.In W ∧ (Reaches 58 y.1 → e.Sz) := by
  have k3 : Try.prog.cellsOf 3 = 1 := by kernel_rfl
  have k30 : Try.prog.cellsOf 30 = 1 := by kernel_rfl
  have k45 : Try.prog.cellsOf 45 = 1 := by kernel_rfl
  have k54 : Try.prog.cellsOf 54 = 4 := by kernel_rfl
  have k56 : Try.prog.cellsOf 56 = 6 := by kernel_rfl
  have k58 : Try.prog.cellsOf 58 = 11 := by kernel_rfl
  obtain ⟨hl, n, hg⟩ := fields_w Try.underlying58 h
  rw [k58] at hl
  match cs, hl with
  | [c0, c1, c2, c3, c4, c5, c6, c7, c8, c9, c10], _ =>
    obtain ⟨y0, t0, _⟩ := hg 0 3 0 rfl
    obtain ⟨y1, t1, m1⟩ := hg 1 54 1 rfl
    obtain ⟨y2, t2, m2⟩ := hg 2 56 5 rfl
    rw [k3] at t0
    rw [k54] at t1
    rw [k56] at t2
    obtain ⟨_, n1, g1⟩ := fields_w Try.underlying54 t1
    obtain ⟨_, n2, g2⟩ := fields_w Try.underlying56 t2
    obtain ⟨_, a0, _⟩ := g1 0 3 0 rfl
    obtain ⟨_, a1, _⟩ := g1 1 3 1 rfl
    obtain ⟨_, a2, _⟩ := g1 2 3 2 rfl
    obtain ⟨_, a3, am⟩ := g1 3 30 3 rfl
    obtain ⟨_, b0, _⟩ := g2 0 3 0 rfl
    obtain ⟨_, b1, _⟩ := g2 1 3 1 rfl
    obtain ⟨_, b2, _⟩ := g2 2 3 2 rfl
    obtain ⟨_, b3, _⟩ := g2 3 3 3 rfl
    obtain ⟨_, b4, _⟩ := g2 4 3 4 rfl
    obtain ⟨_, b5, bm⟩ := g2 5 45 5 rfl
    rw [k3] at a0 a1 a2 b0 b1 b2 b3 b4
    rw [k30] at a3
    rw [k45] at b5
    obtain ⟨z0, rfl, _⟩ := open_cell_int Try.underlying3 (show DataW.trod enc Try.prog W 0 (fun _ => true) true n 3 [c0] = _ from t0)
    obtain ⟨z1, rfl, _⟩ := open_cell_int Try.underlying3 (show DataW.trod enc Try.prog W 0 (fun _ => true) true n1 3 [c1] = _ from a0)
    obtain ⟨z2, rfl, _⟩ := open_cell_int Try.underlying3 (show DataW.trod enc Try.prog W 0 (fun _ => true) true n1 3 [c2] = _ from a1)
    obtain ⟨z3, rfl, _⟩ := open_cell_int Try.underlying3 (show DataW.trod enc Try.prog W 0 (fun _ => true) true n1 3 [c3] = _ from a2)
    obtain ⟨da, dl, dc, rfl, hd, hdb, hdm⟩ := bytes_cell (show DataW.trod enc Try.prog W 0 (fun _ => true) true n1 30 [c4] = _ from a3)
    obtain ⟨z5, rfl, _⟩ := open_cell_int Try.underlying3 (show DataW.trod enc Try.prog W 0 (fun _ => true) true n2 3 [c5] = _ from b0)
    obtain ⟨z6, rfl, _⟩ := open_cell_int Try.underlying3 (show DataW.trod enc Try.prog W 0 (fun _ => true) true n2 3 [c6] = _ from b1)
    obtain ⟨z7, rfl, _⟩ := open_cell_int Try.underlying3 (show DataW.trod enc Try.prog W 0 (fun _ => true) true n2 3 [c7] = _ from b2)
    obtain ⟨z8, rfl, _⟩ := open_cell_int Try.underlying3 (show DataW.trod enc Try.prog W 0 (fun _ => true) true n2 3 [c8] = _ from b3)
    obtain ⟨z9, rfl, _⟩ := open_cell_int Try.underlying3 (show DataW.trod enc Try.prog W 0 (fun _ => true) true n2 3 [c9] = _ from b4)
    obtain ⟨ra, rl, rc, rfl, hr, hi, hm⟩ := recs_cell (show DataW.trod enc Try.prog W 0 (fun _ => true) true n2 45 [c10] = _ from b5)
    refine ⟨⟨z0, ⟨z1, z2, z3, da, dl, dc⟩, ⟨z5, z6, z7, z8, ra, rl, rc, z9⟩⟩, rfl, ⟨hd, hdb, hr, hi⟩, fun hR => ⟨?_, ?_, ?_⟩⟩
    · exact hdm (fun z hz => hR z (m1 z (am z hz)))
    · exact (hm (fun z hz => hR z (m2 z (bm z hz)))).1
    · exact (hm (fun z hz => hR z (m2 z (bm z hz)))).2
/-- A call of the script, as an argument. -/
theorem open_op {H : Type} {enc : TypeId × Value → H} {W : World} {base : Nat} {v : Value} {d : DataW H} {p : List MemPlace} (ho : Value.okWide Try.prog W .any base 58 v)
    (h : DataW.Trod enc Try.prog W 0 (fun _ => true) true 58 v d p) : ∃ e : OpE, v = .agg e.cells.toArray ∧ e.In W ∧ (Reaches 58 d → e.Sz) := by
  obtain ⟨cs, rfl, _⟩ := okWide_struct Try.underlying58 ho
  obtain ⟨fuel, hf⟩ := h
  obtain ⟨e, he, h1, h2⟩ := op_cells (show DataW.trod enc Try.prog W 0 (fun _ => true) true fuel 58 cs.toList = some (d, p) from hf)
  exact ⟨e, by rw [← he], h1, h2⟩
/-- Calls of the script, as an argument. -/
def Ops (w : World) (a : Option Addr) (l : List OpE) : Prop := ∀ k e, l[k]? = some e → (∃ b off, a = some ⟨b, off, none⟩ ∧ b < w.heap.size ∧ ∀ j u, e.cells[j]? = some u → w.cell? ⟨b, off + k * 11 + j, none⟩ = some u) ∧ e.In w
theorem open_ops {H : Type} {enc : TypeId × Value → H} {W : World} {base : Nat} {v : Value} {d : DataW H} {p : List MemPlace} (ho : Value.okWide Try.prog W .any base 50 v)
    (h : DataW.Trod enc Try.prog W 0 (fun _ => true) true 50 v d p) : ∃ a l cap, v = .slice a l.length cap ∧ Ops W a l ∧ (Reaches 50 d → l.length * 120 ≤ 140737488351232 ∧ ∀ e ∈ l, e.Sz) := by
  obtain ⟨a0, len, cap, rfl⟩ := okWide_slice Try.underlying50 ho
  obtain ⟨fuel, hf⟩ := h
  have h1 : Try.prog.cellsOf 58 = 11 := by kernel_rfl
  have hb : Try.prog.bytesOf 58 = 120 := by kernel_rfl
  obtain ⟨a1, len1, cap1, e1, _, _, hw, hel⟩ := elems_w Try.underlying50 (by rw [h1]; decide) (show DataW.trod enc Try.prog W 0 (fun _ => true) true fuel 50 [.slice a0 len cap] = some (d, p) from hf)
  cases e1
  haveI : Inhabited OpE := ⟨⟨0, ⟨0, 0, 0, none, [], 0⟩, ⟨0, 0, 0, 0, none, [], 0, 0⟩⟩⟩
  have key : ∀ i, i < len → ∃ e : OpE, ((∃ b off, a0 = some ⟨b, off, none⟩ ∧ b < W.heap.size ∧ ∀ j u, e.cells[j]? = some u → W.cell? ⟨b, off + i * 11 + j, none⟩ = some u) ∧ e.In W) ∧ (Reaches 50 d → e.Sz) := by
    intro i hi
    obtain ⟨b, off, cs, n, y', ha, hl, hc, ht, hz⟩ := hel i hi
    rw [h1] at hl hc
    obtain ⟨e, rfl, hI, hS⟩ := op_cells ht
    have hk : ∀ j u, e.cells[j]? = some u → W.cell? ⟨b, off + i * 11 + j, none⟩ = some u := fun j u hu => by
      have hj : j < 11 := by have := (List.getElem?_eq_some_iff.1 hu).1; simpa [OpE.cells] using this
      exact (hc j hj).trans hu
    exact ⟨e, ⟨⟨b, off, ha, World.block_lt_of_cell? (a := ⟨b, off + i * 11 + 0, none⟩) W (hk 0 _ rfl), hk⟩, hI⟩, fun hR => hS (fun z h => hR z (hz z h))⟩
  obtain ⟨Z, hZ⟩ := choose_lt key
  have hlen : ((List.range len).map Z).length = len := by simp
  refine ⟨a0, (List.range len).map Z, cap, by rw [hlen], ?_, fun hR => ⟨?_, ?_⟩⟩
  · intro k e he
    have hk : k < len := by
      have := (List.getElem?_eq_some_iff.1 he).1
      simpa using this
    have := hZ k hk
    have e2 : e = Z k := by simpa [hk] using he.symm
    rw [e2]
    exact this.1
  · have := hw _ hR
    rw [hb, show reachBytes = 140737488351232 by decide] at this
    rw [hlen]; omega
  · intro e he
    obtain ⟨i, hi, rfl⟩ := List.mem_map.1 he
    exact (hZ i (List.mem_range.1 hi)).2 hR
theorem reaches_of {H : Type} {ts : List TypeId} {ds : List (DataW H)} (hsz : (DataW.weightsEach Try.prog ts ds).all (· ≤ reachBytes) = true) {j : Nat} {t : TypeId} {d : DataW H} (ht : ts[j]? = some t) (hd : ds[j]? = some d) : Reaches t d :=
  fun z hz => by
    have := List.all_eq_true.1 hsz _ (DataW.weights_mem_each ht hd z hz)
    simpa using this
end Go.Proofs.Ytjhefbkigmamfaa
