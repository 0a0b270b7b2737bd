/-
  VoteOrder: for every three pairs of ints the law returns true and leaves its arguments as they were. No condition.
-/
import Derived.Test.YthpplmplfamjhaaKn
import Derived.Test.YthpplmplfamjhaaFin
import Derived.Test.YthpplmplfamjhaaOpen
namespace Go.Proofs.Ythpplmplfamjhaa.voteOrder
open Go.ChangeShapes Go.WideShapes Go.ChangeAt Go.RowKit Go.Deep
set_option linter.unusedVariables false

theorem guard46 (x y : Operand) (A B : Array Value) (w : World) : (eqGuard .eql 46 x y (.agg A) (.agg B)).run Try.prog w = .ok () w :=
  run_eqGuard_agg w .eql 46 x y A B (by kernel_rfl)
theorem eqIn46 (d : Nat) (a0 a1 b0 b1 : Int) (w : World) : (Op.equalIn (d + 1 + 1) 46 (.agg #[.int .i64 a0, .int .i64 a1]) (.agg #[.int .i64 b0, .int .i64 b1])).run Try.prog w = .ok (decide (a0 = b0 ∧ a1 = b1)) w := by
  have u46 := Try.underlying46
  have hs : ∀ w : World, (sizeOf 3).run Try.prog w = .ok 1 w := fun w => by kernel_rfl
  have hp0 : ∀ (x y : Int) (w : World), (part 3 #[.int .i64 x, .int .i64 y] 0).run Try.prog w = .ok (.int .i64 x) w := fun x y w => by kernel_rfl
  have hp1 : ∀ (x y : Int) (w : World), (part 3 #[.int .i64 x, .int .i64 y] 1).run Try.prog w = .ok (.int .i64 y) w := fun x y w => by kernel_rfl
  have he : ∀ (a b : Int) (w : World), (Op.equalIn (d + 1) 3 (.int .i64 a) (.int .i64 b)).run Try.prog w = .ok (a == b) w := fun a b w => run_equalIn_int w d 3 .i64 .i64 a b Try.underlying3
  rw [Op.equalIn]
  simp only [Sem.run_bind, run_underlying u46, Result.andThen_ok, hs]
  rw [Std.Legacy.Range.forIn_eq_forIn_range']
  simp [Std.Legacy.Range.size, List.range', hp0, hp1, he]
  by_cases h1 : a0 = b0 <;> by_cases h2 : a1 = b1 <;> simp [h1, h2]
theorem eq46 (a0 a1 b0 b1 : Int) (w : World) : (binOp .eql 46 (.agg #[.int .i64 a0, .int .i64 a1]) (.agg #[.int .i64 b0, .int .i64 b1])).run Try.prog w = .ok (.bool (decide (a0 = b0 ∧ a1 = b1))) w := by
  obtain ⟨d, hd⟩ : ∃ d : Nat, 10000 = d + 1 + 1 := ⟨9998, by omega⟩
  have h := eqIn46 d a0 a1 b0 b1 w
  rw [run_eql_struct]
  generalize (10000 : Nat) = n at hd ⊢
  subst hd
  rw [h]
  simp only [Result.andThen_ok]

set_option maxHeartbeats 4000000 in
theorem walk (a0 a1 b0 b1 c0 c1 : Int) (W : World) :
    Calls Try.prog 7 #[.agg #[.int .i64 a0, .int .i64 a1], .agg #[.int .i64 b0, .int .i64 b1], .agg #[.int .i64 c0, .int .i64 c1]] W fun e w' => e = .returned (.bool true) ∧ Below W.heap.size W w' := by
  have l1 : upTo a0 a1 b0 b1 = true ∨ upTo b0 b1 a0 a1 = true := by unfold upTo; simp; omega
  have l2 : upTo a0 a1 b0 b1 = true → upTo b0 b1 c0 c1 = true → upTo a0 a1 c0 c1 = true := by unfold upTo; simp; omega
  have l3 : (decide (a0 = b0 ∧ a1 = b1)) = (upTo a0 a1 b0 b1 && upTo b0 b1 a0 a1) := by rw [Bool.eq_iff_iff]; unfold upTo; simp; omega
  have hab := fun w => up_prog a0 a1 b0 b1 w
  have hba := fun w => up_prog b0 b1 a0 a1 w
  have hbc := fun w => up_prog b0 b1 c0 c1 w
  have hac := fun w => up_prog a0 a1 c0 c1 w
  have heq := fun w => eq46 a0 a1 b0 b1 w
  rw [l3] at heq
  clear l3
  generalize upTo a0 a1 b0 b1 = ab at *
  generalize upTo b0 b1 a0 a1 = ba at *
  generalize upTo b0 b1 c0 c1 = bc at *
  generalize upTo a0 a1 c0 c1 = ac at *
  have HAB := Lib.hid hab
  have HBA := Lib.hid hba
  have HBC := Lib.hid hbc
  have HAC := Lib.hid hac
  clear hab hba hbc hac
  have hgd := fun (x y : Operand) (A B : Array Value) (w : World) => guard46 x y A B w
  cases ab <;> cases ba <;> cases bc <;> cases ac
  all_goals try (exfalso; simp at l1 l2; done)
  all_goals
    clear l1 l2
    go_enter Try.func7, Try.ntmps7
    go_wp2_with fail
    refine (HAB.out _).mono ?_
    rintro e w' ⟨rfl, rfl⟩
    go_wp2_with fail
    refine (HBA.out _).mono ?_
    rintro e w' ⟨rfl, rfl⟩
    go_wp2_with fail
    refine (HBC.out _).mono ?_
    rintro e w' ⟨rfl, rfl⟩
    go_wp2_with fail
    refine (HAC.out _).mono ?_
    rintro e w' ⟨rfl, rfl⟩
    go_wp2_with (go_at_call 15; refine (knows_any _).mono ?_; rintro e w5 ⟨rfl, hkk⟩)
    go_ret
    exact ⟨rfl, Kp.belowW ((((Kp.refl _ _).alloc _).alloc _).alloc _ |>.trans hkk.no)⟩

theorem open_pair {H : Type} {enc : TypeId × Value → H} {W : World} {base : Nat} {v : Value} {d : DataW H} {p : List MemPlace} (ho : Value.okWide Try.prog W .any base 46 v)
    (h : DataW.Trod enc Try.prog W 0 (fun _ => true) true 46 v d p) : ∃ x y, v = .agg #[.int .i64 x, .int .i64 y] := by
  simp only [Value.okWide, Try.underlying46] at ho
  obtain ⟨cs, rfl, hsz, _⟩ := ho
  have hs : cs.size = 2 := hsz.trans (by kernel_rfl)
  obtain ⟨fuel, hf⟩ := h
  obtain ⟨xs, m, _, _, hl, hlen, hg⟩ := DataW.trod_array Try.underlying46 hf
  have h3 : Try.prog.cellsOf 3 = 1 := by kernel_rfl
  obtain ⟨l⟩ := cs
  match l, hs with
  | [c0, c1], _ =>
    have g0 := hg 0 (by omega)
    have g1 := hg 1 (by omega)
    rw [h3, List.getElem?_eq_getElem (by omega)] at g0 g1
    simp [Value.cells] at g0 g1
    obtain ⟨x, rfl, _⟩ := open_cell_int Try.underlying3 g0
    obtain ⟨y, rfl, _⟩ := open_cell_int Try.underlying3 g1
    exact ⟨x, y, rfl⟩

set_option maxRecDepth 100000 in
theorem lifted (os : Os) (started : os.Started) (H : Type) (enc : TypeId × Value → H) :
    ReturnsInHanded {} Try.checked os 7 .any (Rows.voteOrderSpec.pre6 enc Try.prog Try.f7 Rows.voteOrderRow.domain false) (Rows.voteOrderSpec.post enc Try.prog Try.f7 false true false false) := by
  refine returnsInHanded_of_change (C := Try.checked) own started (by kernel_rfl) Try.func7
    (ChangeSpec.witness6 (enc := enc) (C := Try.checked) false ⟨#[], #[.agg #[.int .i64 0, .int .i64 0], .agg #[.int .i64 0, .int .i64 0], .agg #[.int .i64 0, .int .i64 0]], []⟩ 8 (by kernel_rfl) (by kernel_rfl) (by kernel_rfl) (by kernel_rfl)) ?_
  intro W base args ds gs before hval0 hW _ _
  have hval : ∀ (j : Nat) t v, Try.f7.params[j]? = some t → args[j]? = some v → Value.okWide Try.prog W .any base t v := hval0
  have hW' := hW
  obtain ⟨p, q, hA0, hV, rfl, hfz, hnd⟩ := hW
  have hA : DataW.TrodAll enc Try.prog W 0 (fun _ => true) true Try.f7.params.toList args.toList ds p := hA0
  rw [Try.params7] at hA hval
  obtain ⟨v0, vs0, d0, ds0, p0, q0, hargs, rfl, rfl, h0, r0⟩ := trodAll_cons hA
  obtain ⟨v1, vs1, d1, ds1, p1, q1, rfl, rfl, rfl, h1, r1⟩ := trodAll_cons r0
  obtain ⟨v2, vs2, d2, ds2, p2, q2, rfl, rfl, rfl, h2, r2⟩ := trodAll_cons r1
  obtain ⟨rfl, rfl, rfl⟩ := trodAll_nil r2
  obtain rfl : args = #[v0, v1, v2] := by cases args; simp_all
  obtain ⟨rfl, rfl⟩ := trodVars_none hV
  have o0 := hval 0 46 v0 rfl rfl
  have o1 := hval 1 46 v1 rfl rfl
  have o2 := hval 2 46 v2 rfl rfl
  obtain ⟨a0, a1, rfl⟩ := open_pair o0 h0
  obtain ⟨b0, b1, rfl⟩ := open_pair o1 h1
  obtain ⟨c0, c1, rfl⟩ := open_pair o2 h2
  refine (walk a0 a1 b0 b1 c0 c1 W).mono fun e W' ⟨he, hg⟩ => ?_
  subst he
  exact ⟨_, rfl, law_post laidOut (of_decide_eq_true (by kernel_rfl)) rfl Try.underlying4 rfl ⟨rfl, rfl, rfl⟩ hW' hg⟩

theorem over : Rows.voteOrderRow.holds Try.pinned (OpenSpec.ofChange Rows.voteOrderSpec) :=
  OpenClaim.holds_of_wide 7 Try.f7 rfl rfl rfl rfl rfl rfl rfl ⟨rfl, rfl, rfl, rfl, rfl⟩ rfl rfl rfl rfl rfl (by kernel_rfl) Try.func7 (by kernel_rfl)
    (of_decide_eq_true (by kernel_rfl)) (by unfold Func.isWrapper; first | (rw [if_pos (by decide +kernel)]; kernel_rfl) | (rw [if_neg (by decide +kernel)]; exact ⟨rfl, rfl⟩))
    (fun os started H enc _ => lifted os started H enc)

theorem proved : Rows.VoteOrderSaid :=
  over
#print axioms proved
end Go.Proofs.Ythpplmplfamjhaa.voteOrder
