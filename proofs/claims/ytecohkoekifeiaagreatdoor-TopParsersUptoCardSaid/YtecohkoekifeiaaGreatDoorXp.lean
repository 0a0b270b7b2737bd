/-
  TopParsers: for every list of bytes of bulk at most 1048576 (the row's own condition) the law returns true and leaves its argument as it was; the listed variables read as the program's text lays them (the card ties them). No other condition.
-/
import Derived.Test.YtecohkoekifeiaaGreatDoorRows
import Derived.Test.YtecohkoekifeiaaGreatDoorXo
import Derived.WalkKit
import Derived.ProofKit
import Derived.OpenShut
import Derived.Deep.DeepHandedRow
import Derived.Deep.DeepWitnessRowRef
import Derived.Lib.LaidTab
import Derived.Lib.LaidU8
import Derived.MakeChecks
import Derived.Test.YtecohkoekifeiaaGreatDoorF8
namespace Go.Proofs.YtecohkoekifeiaaGreatDoor.topParsers
open Go.ChangeShapes Go.WideShapes Go.ChangeAt Go.RowKit
set_option linter.unusedVariables false

theorem own : ownKnob Tryz.prog.godebug = none := by kernel_rfl
theorem laidOut : laidOutB Tryz.prog = true := facts.k1
theorem gPow : Tryz.prog.globalNamed "internal/strconv.uint64pow10" = some 1 := by kernel_rfl
theorem tPow : (Tryz.prog.globals[1]?).map (·.type) = some 270 := by kernel_rfl
theorem cells5 : Tryz.prog.cellsOf 5 = 1 := by kernel_rfl
theorem cells210 : Tryz.prog.cellsOf 210 = 1 := by kernel_rfl
theorem cells270 : Tryz.prog.cellsOf 270 = 20 := by kernel_rfl
theorem row0 : ((begin Tryz.prog (fun _ _ => 0) default).world.heap[0]?).bind Obj.row? = some (#[.int .i64 0], 3) := by kernel_rfl
theorem row1 : (((begin Tryz.prog (fun _ _ => 0) default).world.heap[1]?).bind Obj.row?).map (·.2) = some 270 := by kernel_rfl
theorem size8 : (Tryz.prog.globals.size == 8) = true := by kernel_rfl
theorem size13 : ((begin Tryz.prog (fun _ _ => 0) default).world.heap.size == 13) = true := by kernel_rfl

theorem trodAll_below {H : Type} {enc : TypeId × Value → H} {P : Program} (hl : laidOutB P = true) {W W' : World} (hb : Below W.heap.size W W') :
    ∀ (ts : List TypeId) (vs : List Value) (ds : List (DataW H)) (ps : List MemPlace), ts.all (fun t => P.readableRec t && decide (t < P.types.size)) = true → (∀ x ∈ ps, x.block < W.heap.size) →
      DataW.TrodAll enc P W 0 (fun _ => true) true ts vs ds ps → DataW.TrodAll enc P W' 0 (fun b => decide (b < W.heap.size)) true ts vs ds ps
  | [], [], [], _, _, _, h => h
  | t :: ts, v :: vs, d :: ds, ps, ha, hlt, h => by
    obtain ⟨p, q, h1, h2, rfl⟩ := h
    simp only [List.all_cons, Bool.and_eq_true, decide_eq_true_eq] at ha
    exact ⟨p, q, Below.trod hl ha.1.1 ha.1.2 h1 hb (fun x hx => hlt x (List.mem_append.2 (.inl hx))),
      trodAll_below hl hb ts vs ds q (by simpa using ha.2) (fun x hx => hlt x (List.mem_append.2 (.inr hx))) h2, rfl⟩
  | [], _ :: _, _, _, _, _, h => h.elim
  | [], [], _ :: _, _, _, _, h => h.elim
  | _ :: _, [], _, _, _, _, h => h.elim
  | _ :: _, _ :: _, [], _, _, _, h => h.elim

theorem law_post {H : Type} {enc : TypeId × Value → H} {P : Program} {f : Func} {s : ChangeSpec} {tb : TypeId} (hl : laidOutB P = true) (hr : f.params.toList.all (fun t => P.readableRec t && decide (t < P.types.size)) = true)
    (hres : f.resultTypes = #[tb]) (ub : P.underlying tb = some .bool) (hsv : s.vars = []) {W W' : World} {args : Array Value} {ds : List (DataW H)} {before : List MemPlace}
    (hs : (s.fn H ds).results = [.lit (.bool true)] ∧ (s.fn H ds).args = ds ∧ (s.fn H ds).vars = [])
    (hW : DataW.Whole enc P f.params.toList s.vars false W args.toList ds [] before) (hb : Below W.heap.size W W') :
    s.post enc P f false true false false W args (.bool true) W' := by
  have hlt := hW.lt
  obtain ⟨p, q, hA, hV, he, hfz, hnd⟩ := hW
  have hV' := hV
  rw [hsv] at hV'
  obtain ⟨_, rfl⟩ := trodVars_none hV'
  rw [List.append_nil] at he
  subst he
  refine ⟨ds, [], before, [], before, [], ⟨before, [], hA, hV, by simp, hfz, hnd⟩, ?_, ?_, ?_, hb.frame _, fun h => by cases h⟩
  · rw [List.append_nil, hs.1, hres]
    exact trodAll_cons_mk (shut_bool ub _) trodAll_mk0
  · rw [List.append_nil, hs.2.1]
    exact trodAll_below hl hb _ _ _ _ hr (fun x hx => by simpa using hlt x hx) hA
  · rw [List.append_nil, hs.2.2, hsv]
    rfl

set_option maxRecDepth 100000 in
/-- A variable of type int holds some int. -/
theorem int_of_shape {w : World} (h : w.ShapedOpen Tryz.prog) : ∃ m t f, w.heap[0]? = some (.cells #[.int .i64 m] t f) := by
  have hg : 0 < Tryz.prog.globals.size := by have := eq_of_beq size8; omega
  obtain ⟨cs, hh, hs, hr⟩ := h.1 0 _ 3 hg row0
  obtain ⟨ts, hts, _, hall⟩ := hr (by kernel_rfl)
  have hc : Tryz.prog.cellTypes Tryz.prog.depth 3 = some [3] := by kernel_rfl
  rw [hc] at hts
  cases hts
  have h1 : cs.size = 1 := hs
  obtain ⟨c, rfl⟩ : ∃ c, cs = #[c] := ⟨cs[0], by
    apply Array.ext
    · simp [h1]
    · intro i h2 h3
      obtain rfl : i = 0 := by omega
      rfl⟩
  obtain ⟨u, hu', hok⟩ := hall 0 c rfl
  obtain rfl : u = 3 := by simpa using hu'.symm
  unfold Cell.ok at hok
  rw [Tryz.underlying3] at hok
  cases c with
  | int k n =>
    simp only at hok
    obtain ⟨hk, _⟩ := hok
    subst hk
    exact ⟨n, 3, _, hh⟩
  | _ => simp at hok

theorem thirteen {w : World} (h : w.ShapedOpen Tryz.prog) : 13 ≤ w.heap.size := by
  have h1 := eq_of_beq size8
  have h2 := eq_of_beq size13
  obtain ⟨o, _, ho, _⟩ := h.2 12 (by omega) (by omega)
  have := (Array.getElem?_eq_some_iff.1 ho).1
  omega

set_option maxRecDepth 100000 in
theorem pow_of_laid {w : World} (h : w.ShapedOpen Tryz.prog) (hL : laidMetH Tryz.prog Rows.topParsersUptoRow.laid w) : w.heap[1]? = some (.cells Go.Ev.powRow 270) := by
  have hp : laidMet Tryz.prog Rows.topParsersUptoRow.laid w := by
    rw [MakeChecks.laidMetH_plain _ _ _ (by kernel_rfl)] at hL
    exact hL
  obtain ⟨g, t, cs, fuel, p, hg, ht, hv, hd⟩ := Lib.laidMet.reads hp (.tail _ (.tail _ (.tail _ (.tail _ (.head _)))))
  obtain rfl := Option.some.inj (gPow.symm.trans hg)
  obtain rfl := Option.some.inj (tPow.symm.trans ht)
  have hcs := Lib.cells_of_tab (k := .u64) (zs := [1, 10, 100, 1000, 10000, 100000, 1000000, 10000000, 100000000, 1000000000, 10000000000, 100000000000, 1000000000000, 10000000000000, 100000000000000, 1000000000000000, 10000000000000000, 100000000000000000, 1000000000000000000, 10000000000000000000]) Tryz.underlying270 Tryz.underlying210 cells210 cells270 hd
  have hr := row1
  cases hz : ((begin Tryz.prog (fun _ _ => 0) default).world.heap[1]?).bind Obj.row? with
  | none => rw [hz] at hr; cases hr
  | some x =>
    obtain ⟨zero, t⟩ := x
    rw [hz] at hr
    obtain rfl : t = 270 := by simpa using hr
    obtain ⟨cs', hh, _, _⟩ := h.1 1 zero 270 (by have := eq_of_beq size8; omega) hz
    have hv2 : w.var? Tryz.prog "internal/strconv.uint64pow10" = some cs' := by simp [World.var?, gPow, hh]
    rw [hv] at hv2
    cases hv2
    rw [hh]
    exact congrArg (fun c => some (Obj.cells c 270)) (Array.toList_inj.1 (hcs.trans rfl))

theorem bulk_len {H : Type} : ∀ (l : List (DataW H)), l.length ≤ Rows.uptoBulkAll l
  | [] => by simp [Rows.uptoBulkAll]
  | d :: r => by
    have h1 := bulk_len r
    have h2 : 1 ≤ Rows.uptoBulk d := by cases d with
      | lit l => cases l <;> simp [Rows.uptoBulk]
      | _ => simp [Rows.uptoBulk]
    rw [Rows.uptoBulkAll, List.length_cons]
    omega

set_option maxRecDepth 100000 in
/-- What the walk gives, for every argument that is small and every world that holds the tables. -/
theorem contract (H : Type) (enc : TypeId × Value → H) (W : World) (base : Nat) (args : Array Value) (ds gs : List (DataW H)) (before : List MemPlace)
    (hval : ∀ (j : Nat) t v, Tryz.f3.params[j]? = some t → args[j]? = some v → Value.okWide Tryz.prog W .any base t v)
    (hW : DataW.Whole enc Tryz.prog Tryz.f3.params.toList Rows.topParsersSpec.vars false W args.toList ds gs before) (hk : Rows.uptoSmall H (ds ++ gs) = true)
    (hL : laidMetH Tryz.prog Rows.topParsersUptoRow.laid W) (hsh : W.ShapedOpen Tryz.prog) :
    Calls Tryz.prog 3 args W fun e W' => ∃ v, e = .returned v ∧ Rows.topParsersSpec.post enc Tryz.prog Tryz.f3 false true false false W args v W' := by
  have hW' := hW
  obtain ⟨p, q, hA0, hV, rfl, hfz, hnd⟩ := hW
  have hA : DataW.TrodAll enc Tryz.prog W 0 (fun _ => true) true Tryz.f3.params.toList args.toList ds p := hA0
  rw [Tryz.params3] at hA hval
  obtain ⟨v0, vs0, d0, ds0, p0, q0, hargs, rfl, rfl, h0, r0⟩ := trodAll_cons hA
  obtain ⟨rfl, rfl, rfl⟩ := trodAll_nil r0
  obtain rfl : args = #[v0] := by cases args; simp_all
  obtain ⟨rfl, rfl⟩ := trodVars_none hV
  obtain ⟨a0, l0, c0, rfl⟩ := okWide_slice Tryz.underlying22 (hval 0 22 v0 rfl rfl)
  obtain ⟨m, t, f, g0⟩ := int_of_shape hsh
  have g1 := pow_of_laid hsh hL
  have g13 := thirteen hsh
  have hb : Rows.uptoBulkAll [d0] ≤ 1048576 := of_decide_eq_true hk
  have hb0 : Rows.uptoBulk d0 ≤ 1048576 := by
    simp only [Rows.uptoBulkAll] at hb
    omega
  clear hk hb
  have walk : Calls Tryz.prog 3 #[.slice a0 l0 c0] W fun e w' => e = .returned (.bool true) ∧ Below W.heap.size W w' := by
    obtain ⟨fuel0, hf0⟩ := h0
    rcases open_ints Tryz.underlying22 Tryz.underlying5 cells5 hf0 with ⟨hcs, hx⟩ | ⟨ad, len, cap, zs, hcs, _, hl, hm, hz, hx, hcell, hwz⟩
    · simp [Value.cells] at hcs
      obtain ⟨rfl, rfl, rfl⟩ := hcs
      exact top_yes (b := []) (Row.nil _ _) (fun _ h => by cases h) (by simp) 0 (Nat.le_refl _) g0 g1 g13
    · simp [Value.cells] at hcs
      obtain ⟨rfl, rfl, rfl⟩ := hcs
      simp only [Prod.mk.injEq] at hx
      obtain ⟨hx, _⟩ := hx
      simp only [if_true] at hz
      have hlen : (zs.take l0).length = l0 := by rw [List.length_take]; omega
      have hsmall : l0 ≤ 1048576 := by
        rw [hx, Rows.uptoBulk] at hb0
        have h1 := bulk_len (H := H) (lits .u8 (zs.take l0))
        have h2 : (lits (H := H) .u8 (zs.take l0)).length = l0 := by simp [lits]; omega
        omega
      have hrow : Row W (some ad) (bytes (zs.take l0)) := by
        intro i v hv
        obtain ⟨b, off, sp⟩ := ad
        have hi : i < l0 := by
          have := (List.getElem?_eq_some_iff.1 hv).1
          rw [bytes_length, hlen] at this
          exact this
        have hc := hcell i (by omega)
        have hsp : sp = none := by
          have := World.cell?_spot (hcell 0 (by omega))
          simpa [Addr.add] using this
        subst hsp
        refine ⟨b, off, rfl, ?_⟩
        have hv2 : v = .int .u8 (zs.getD i 0) := by
          have h3 : i < zs.length := by omega
          simp only [bytes, List.getElem?_map, List.getElem?_take_of_lt hi, List.getElem?_eq_getElem h3, Option.map_some, Option.some.injEq] at hv
          rw [← hv]
          simp [List.getD, h3]
        rw [hv2]
        by_cases hi0 : i = 0
        · subst hi0
          simpa [Addr.add] using hc
        · simpa [Addr.add, hi0] using hc
      have hB : Byte (zs.take l0) := fun z hz2 => by
        have h2 : IntKind.u8.min ≤ z ∧ z ≤ IntKind.u8.max := by simpa [Lit.wf, IntKind.has] using hwz z (List.mem_of_mem_take hz2)
        have e1 : IntKind.u8.min = 0 := rfl
        have e2 : IntKind.u8.max = 255 := rfl
        omega
      have := top_yes (c := c0) hrow hB (by omega) (by omega) g0 g1 g13
      rwa [hlen] at this
  refine walk.mono fun e W' ⟨he, hg⟩ => ?_
  subst he
  exact ⟨_, rfl, law_post laidOut (of_decide_eq_true (by kernel_rfl)) rfl Tryz.underlying4 rfl ⟨rfl, rfl, rfl⟩ hW' hg⟩

/-- A world for the witness: the settled one, the listed variables holding what their initialisers lay. -/
noncomputable def laidWorld (os : Os) : World :=
  let N := (World.settled Tryz.prog os).heap.size
  let w0 := World.holding Tryz.prog os ⟨#[.cells #[.string (ByteArray.mk #[105, 110, 118, 97, 108, 105, 100, 32, 115, 121, 110, 116, 97, 120])] 447, .cells #[.string (ByteArray.mk #[118, 97, 108, 117, 101, 32, 111, 117, 116, 32, 111, 102, 32, 114, 97, 110, 103, 101])] 447], #[], []⟩
  let put (h : Array Obj) (g : Nat) (cs : Array Value) : Array Obj := h.modify g fun
    | .cells _ t frozen => .cells cs t frozen
    | o => o
  let h1 := put w0.heap 1 Go.Ev.powRow
  let h2 := put h1 2 #[.iface 445 (.pointer (some ⟨N, 0, none⟩))]
  let h3 := put h2 3 #[.iface 445 (.pointer (some ⟨N + 1, 0, none⟩))]
  let h4 := put h3 4 #[.int .u8 0, .int .u8 1, .int .u8 28, .int .u8 2, .int .u8 29, .int .u8 14, .int .u8 24, .int .u8 3, .int .u8 30, .int .u8 22, .int .u8 20, .int .u8 15, .int .u8 25, .int .u8 17, .int .u8 4, .int .u8 8, .int .u8 31, .int .u8 27, .int .u8 13, .int .u8 23, .int .u8 21, .int .u8 19, .int .u8 16, .int .u8 7, .int .u8 26, .int .u8 12, .int .u8 18, .int .u8 6, .int .u8 11, .int .u8 5, .int .u8 10, .int .u8 9]
  let h5 := put h4 5 (([0, 1, 56, 2, 57, 49, 28, 3, 61, 58, 42, 50, 38, 29, 17, 4, 62, 47, 59, 36, 45, 43, 51, 22, 53, 39, 33, 30, 24, 18, 12, 5, 63, 55, 48, 27, 60, 41, 37, 16, 46, 35, 44, 21, 52, 32, 23, 11, 54, 26, 40, 15, 34, 20, 31, 10, 25, 14, 19, 9, 13, 8, 7, 6] : List Int).map fun z => Value.int .u8 z).toArray
  let h6 := put h5 6 (Go.Pinned.utf8FirstZ.map fun (z : Nat) => Value.int .u8 (z : Int)).toArray
  let h7 := put h6 7 (([128, 191, 160, 191, 128, 159, 144, 191, 128, 143, 0, 0, 0, 0, 0, 0, 0, 0, 0, 0, 0, 0, 0, 0, 0, 0, 0, 0, 0, 0, 0, 0] : List Int).map fun z => Value.int .u8 z).toArray
  { w0 with heap := h7 }
theorem laid_met (os : Os) : laidMet Tryz.prog Rows.topParsersUptoRow.laid ((laidWorld os).forCall (fun _ _ => 0) ⟨#[], #[.slice none 0 0], []⟩).memory :=
  laidMet_of_run' 8 (by kernel_rfl) (by kernel_rfl)
theorem laid_metH (os : Os) : laidMetH Tryz.prog Rows.topParsersUptoRow.laid ((laidWorld os).forCall (fun _ _ => 0) ⟨#[], #[.slice none 0 0], []⟩).memory := by
  rw [MakeChecks.laidMetH_plain _ _ _ (by kernel_rfl)]
  exact laid_met os
theorem reads (os : Os) {H : Type} (enc : TypeId × Value → H) : ∃ places, DataW.whole enc Tryz.prog ((laidWorld os).forCall (fun _ _ => 0) ⟨#[], #[.slice none 0 0], []⟩).memory Tryz.f3.params.toList Rows.topParsersSpec.vars false #[Value.slice none 0 0].toList 8 = some ([.nil], [], places) :=
  ⟨[], by kernel_rfl⟩

set_option maxRecDepth 100000 in
theorem liftedUpto (os : Os) (started : os.Started) (H : Type) (enc : TypeId × Value → H) (F : Stop.Interp) :
    ReturnsInHanded {} Tryz.checked os 3 .any ((Rows.OpenSpec.upto Rows.topParsersSpec).preRow enc Tryz.prog Tryz.f3 Rows.topParsersUptoRow.domain false Rows.topParsersUptoRow.laid) (((Rows.OpenSpec.upto Rows.topParsersSpec).at F).post enc Tryz.prog Tryz.f3 false true false false) := by
  obtain ⟨places, hx⟩ := reads os enc
  refine returnsInHanded_of_row (C := Tryz.checked) (s := Rows.OpenSpec.upto Rows.topParsersSpec) own started (by kernel_rfl) Tryz.func3
    (witness_row_atRef (enc := enc) (C := Tryz.checked) false (laidWorld os) #[.slice none 0 0] rfl (by kernel_rfl) (by kernel_rfl) (by kernel_rfl)
      (OpenSpec.preRow_of_cond 8 hx (by kernel_rfl) (fun k hk => by cases hk; kernel_rfl) (by kernel_rfl) (laid_metH os))) ?_
  intro W base args ds gs before hval hW _ hcond _ hL hsh _
  exact contract H enc W base args ds gs before hval hW (hcond _ rfl) hL hsh

theorem saidUpto : Rows.TopParsersUptoSaid :=
  OpenClaim.holds_of_cond 3 Tryz.f3 rfl rfl rfl rfl rfl rfl rfl ⟨rfl, rfl, rfl, rfl, rfl⟩ rfl rfl rfl rfl rfl facts.named Tryz.func3 facts.closed
    (of_decide_eq_true (by kernel_rfl)) facts.wrap
    (fun os started H enc _ F => by rw [OpenClaim.pre_eq_preRow]; exact liftedUpto os started H enc F)
end Go.Proofs.YtecohkoekifeiaaGreatDoor.topParsers
