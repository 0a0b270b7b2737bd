/-
  VoteAnswers: for every server and every ask the law returns true and leaves its arguments as they were. No condition.
-/
import Derived.Test.YthpplmplfamjhaaKn
import Derived.Test.YthpplmplfamjhaaFin
import Derived.Test.YthpplmplfamjhaaOpen
import Derived.Deep.RegionHeld3
import Derived.Deep.DeepCutAuto
namespace Go.Proofs.Ythpplmplfamjhaa.voteAnswers
open Go.ChangeShapes Go.WideShapes Go.ChangeAt Go.RowKit Go.Deep
set_option linter.unusedVariables false

/-- The two boxes hold the arguments. -/
def Box (b c : Nat) (t f i l : Int) (fr : Bool) (at_ from_ ai al : Int) (w : World) : Prop :=
  w.cell? ⟨b, 0, none⟩ = some (.int .i64 t) ∧ w.cell? ⟨b, 1, none⟩ = some (.int .i64 f) ∧ w.cell? ⟨b, 2, none⟩ = some (.int .i64 i) ∧ w.cell? ⟨b, 3, none⟩ = some (.int .i64 l) ∧ w.cell? ⟨b, 4, none⟩ = some (.bool fr) ∧
  w.cell? ⟨c, 0, none⟩ = some (.int .i64 at_) ∧ w.cell? ⟨c, 1, none⟩ = some (.int .i64 from_) ∧ w.cell? ⟨c, 2, none⟩ = some (.int .i64 ai) ∧ w.cell? ⟨c, 3, none⟩ = some (.int .i64 al)
theorem kpCell {w w' : World} {p : Addr} {v : Value} (k : Kp (fun _ => False) w w') (h : w.cell? p = some v) : w'.cell? p = some v :=
  (k.cell (World.block_lt_of_cell? w p h) (fun h => h)).trans h
theorem Box.kp {b c : Nat} {t f i l : Int} {fr : Bool} {at_ from_ ai al : Int} {w w' : World} (h : Box b c t f i l fr at_ from_ ai al w) (k : Kp (fun _ => False) w w') : Box b c t f i l fr at_ from_ ai al w' := by
  obtain ⟨h0, h1, h2, h3, h4, h5, h6, h7, h8⟩ := h
  exact ⟨kpCell k h0, kpCell k h1, kpCell k h2, kpCell k h3, kpCell k h4, kpCell k h5, kpCell k h6, kpCell k h7, kpCell k h8⟩

/-- The answer lies in block p. -/
def At (p : Nat) (T V i l : Int) (fr : Bool) (tm : TypeId) (w : World) : Prop := w.heap[p]? = some (.cells #[.int .i64 T, .int .i64 V, .int .i64 i, .int .i64 l, .bool fr] tm (0, 0))
def CutA (N : Nat) (W : World) (T V i l : Int) (fr y z : Bool) (s5 s6 s7 : Value) (w : World) : Prop :=
  ∃ p, s5 = .pointer (some ⟨p, 0, none⟩) ∧ s6 = .bool y ∧ s7 = .bool z ∧ At p T V i l fr 26 w ∧ Kp (fun k => W.heap.size ≤ k) W w
/-- All that the last test reads. -/
def Box2 (p q N : Nat) (T V t f i l : Int) (fr : Bool) (at_ from_ ai al : Int) (w' : World) : Prop :=
  w'.cell? ⟨p, 0, none⟩ = some (.int .i64 T) ∧ w'.cell? ⟨p, 1, none⟩ = some (.int .i64 V) ∧ w'.cell? ⟨p, 2, none⟩ = some (.int .i64 i) ∧ w'.cell? ⟨p, 3, none⟩ = some (.int .i64 l) ∧ w'.cell? ⟨p, 4, none⟩ = some (.bool fr) ∧ w'.cell? ⟨q, 0, none⟩ = some (.int .i64 T) ∧ w'.cell? ⟨q, 1, none⟩ = some (.int .i64 V) ∧ w'.cell? ⟨q, 2, none⟩ = some (.int .i64 i) ∧ w'.cell? ⟨q, 3, none⟩ = some (.int .i64 l) ∧ w'.cell? ⟨q, 4, none⟩ = some (.bool fr) ∧ w'.cell? ⟨N, 0, none⟩ = some (.int .i64 t) ∧ w'.cell? ⟨N, 1, none⟩ = some (.int .i64 f) ∧ w'.cell? ⟨N, 2, none⟩ = some (.int .i64 i) ∧ w'.cell? ⟨N, 3, none⟩ = some (.int .i64 l) ∧ w'.cell? ⟨N, 4, none⟩ = some (.bool fr) ∧ w'.cell? ⟨N + 1, 0, none⟩ = some (.int .i64 at_) ∧ w'.cell? ⟨N + 1, 1, none⟩ = some (.int .i64 from_) ∧ w'.cell? ⟨N + 1, 2, none⟩ = some (.int .i64 ai) ∧ w'.cell? ⟨N + 1, 3, none⟩ = some (.int .i64 al)
theorem Box2.kp {p q N : Nat} {T V t f i l : Int} {fr : Bool} {at_ from_ ai al : Int} {w w' : World} (h : Box2 p q N T V t f i l fr at_ from_ ai al w) (k : Kp (fun _ => False) w w') : Box2 p q N T V t f i l fr at_ from_ ai al w' := by
  obtain ⟨g0, g1, g2, g3, g4, g5, g6, g7, g8, g9, g10, g11, g12, g13, g14, g15, g16, g17, g18⟩ := h
  exact ⟨kpCell k g0, kpCell k g1, kpCell k g2, kpCell k g3, kpCell k g4, kpCell k g5, kpCell k g6, kpCell k g7, kpCell k g8, kpCell k g9, kpCell k g10, kpCell k g11, kpCell k g12, kpCell k g13, kpCell k g14, kpCell k g15, kpCell k g16, kpCell k g17, kpCell k g18⟩
theorem At.drew {p : Nat} {T V i l : Int} {fr : Bool} {tm : TypeId} {w : World} (h : At p T V i l fr tm w) : At p T V i l fr tm w.drew := h
set_option maxHeartbeats 2000000 in
theorem walk (t f i l : Int) (fr : Bool) (at_ from_ ai al : Int) (W : World) :
    Calls Try.prog 3 #[vMe t f i l fr, vAsk at_ from_ ai al] W fun e w' => e = .returned (.bool true) ∧ Below W.heap.size W w' := by
  obtain ⟨A, hA⟩ : ∃ A, A = ans t f i l fr at_ from_ ai al := ⟨_, rfl⟩
  obtain ⟨T, V, y, z⟩ := A
  have hP := fun w => answer_prog t f i l fr at_ from_ ai al w
  have hR := fun w => answer_ref t f i l fr at_ from_ ai al w
  rw [← hA] at hP hR
  clear hA
  have HP := Lib.hid hP
  have HR := Lib.hid hR
  clear hP hR
  unfold vMe vAsk
  go_enter Try.func3, Try.ntmps3
  go_wp2
  have hb : Box W.heap.size (W.heap.size + 1) t f i l fr at_ from_ ai al ((W.alloc (.cells #[.int .i64 t, .int .i64 f, .int .i64 i, .int .i64 l, .bool fr] 23)).alloc (.cells #[.int .i64 at_, .int .i64 from_, .int .i64 ai, .int .i64 al] 25)) := by
    refine ⟨?_, ?_, ?_, ?_, ?_, ?_, ?_, ?_, ?_⟩ <;> go_simp
  have hK : Kp (fun k => W.heap.size ≤ k) W ((W.alloc (.cells #[.int .i64 t, .int .i64 f, .int .i64 i, .int .i64 l, .bool fr] 23)).alloc (.cells #[.int .i64 at_, .int .i64 from_, .int .i64 ai, .int .i64 al] 25)) := ((Kp.refl _ _).alloc _).alloc _
  generalize ((W.alloc (.cells #[.int .i64 t, .int .i64 f, .int .i64 i, .int .i64 l, .bool fr] 23)).alloc (.cells #[.int .i64 at_, .int .i64 from_, .int .i64 ai, .int .i64 al] 25)) = w0 at hb hK ⊢
  obtain ⟨N, hN⟩ : ∃ N, N = W.heap.size := ⟨_, rfl⟩
  rw [← hN] at hb ⊢
  clear hN
  have hb' := hb
  unfold Box at hb'
  obtain ⟨h0, h1, h2, h3, h4, h5, h6, h7, h8⟩ := hb'
  have s0 : N + 1 < w0.heap.size := World.block_lt_of_cell? w0 _ h5
  have s1 : N < w0.heap.size := by omega
  go_cut [5, 6, 7] (fun s5 s6 s7 w' => CutA N W T V i l fr y z s5 s6 s7 w' ∧ Box N (N + 1) t f i l fr at_ from_ ai al w')
  case first =>
    go_region_held3 (fun w' => w'.cell? ⟨N, 0, none⟩ = some (.int .i64 t) ∧ w'.cell? ⟨N, 1, none⟩ = some (.int .i64 f) ∧ w'.cell? ⟨N, 2, none⟩ = some (.int .i64 i) ∧ w'.cell? ⟨N, 3, none⟩ = some (.int .i64 l) ∧ w'.cell? ⟨N, 4, none⟩ = some (.bool fr) ∧ w'.cell? ⟨N + 1, 0, none⟩ = some (.int .i64 at_) ∧ w'.cell? ⟨N + 1, 1, none⟩ = some (.int .i64 from_) ∧ w'.cell? ⟨N + 1, 2, none⟩ = some (.int .i64 ai) ∧ w'.cell? ⟨N + 1, 3, none⟩ = some (.int .i64 al)) (exact Box.kp hb (by repeat (first | exact Kp.refl _ _ | apply Kp.drew | apply Kp.alloc)))
      (first | (go_at_call 10; refine (me_any t f i l fr _).mono ?_; rintro e w1 ⟨rfl, rfl⟩) | (go_at_call 11; refine (ask_any at_ from_ ai al _).mono ?_; rintro e w2 ⟨rfl, rfl⟩) | (go_at_call 9; refine (HP.out _).mono ?_; rintro e w3 ⟨rfl, rfl⟩; simp only [vAns, vMe, ansW]))
    all_goals go_wp2
    all_goals go_meet
    all_goals
      case rel =>
        refine ⟨⟨_, rfl, rfl, rfl, ?_, ?_⟩, ?_⟩
        · refine At.drew ?_
          unfold At
          repeat (first | (refine heap_at _ ?_; (simp; done)) | refine heap_old _ ?_)
        · refine hK.trans ?_
          repeat (first | exact Kp.refl _ _ | apply Kp.drew | apply Kp.alloc)
        · refine Box.kp hb ?_
          repeat (first | exact Kp.refl _ _ | apply Kp.drew | apply Kp.alloc)
  case rest =>
    obtain ⟨⟨p, rfl, rfl, rfl, hp, hKc⟩, hbc⟩ := hcut
    clear h0 h1 h2 h3 h4 h5 h6 h7 h8 s0 s1 hb hK
    have hbc' := hbc
    unfold Box at hbc'
    obtain ⟨h0, h1, h2, h3, h4, h5, h6, h7, h8⟩ := hbc'
    go_wp2_with (go_at_call 12; refine (HR.out _).mono ?_; rintro e w3 ⟨rfl, hw⟩; have hk3 := ansW_kp wc ⟨T, V, y, z⟩ i l fr at_ from_ ai al 23 25; rw [hw] at hk3; clear hw; simp only [vAns, vMe])
    have hq := heap_new w3 (.cells #[.int .i64 T, .int .i64 V, .int .i64 i, .int .i64 l, .bool fr] 23)
    have hp4 := heap_old (.cells #[.int .i64 T, .int .i64 V, .int .i64 i, .int .i64 l, .bool fr] 23) (hk3.heap hp (fun h => h))
    have hb4 : Box N (N + 1) t f i l fr at_ from_ ai al _ := (hbc.kp hk3).kp ((Kp.refl _ w3).alloc (.cells #[.int .i64 T, .int .i64 V, .int .i64 i, .int .i64 l, .bool fr] 23))
    have hK4 := (hKc.trans (hk3.no (B := W.heap.size))).alloc (.cells #[.int .i64 T, .int .i64 V, .int .i64 i, .int .i64 l, .bool fr] 23)
    generalize w3.alloc (.cells #[.int .i64 T, .int .i64 V, .int .i64 i, .int .i64 l, .bool fr] 23) = w4 at hq hp4 hb4 hK4 ⊢
    generalize w3.heap.size = q at hq ⊢
    unfold Box at hb4
    have hb2 : Box2 p q N T V t f i l fr at_ from_ ai al w4 := ⟨cell_of hp4 0 rfl, cell_of hp4 1 rfl, cell_of hp4 2 rfl, cell_of hp4 3 rfl, cell_of hp4 4 rfl, cell_of hq 0 rfl, cell_of hq 1 rfl, cell_of hq 2 rfl, cell_of hq 3 rfl, cell_of hq 4 rfl, hb4⟩
    clear h0 h1 h2 h3 h4 h5 h6 h7 h8 hb4 hp4 hq hp hKc hk3 hbc
    have hb2' := hb2
    unfold Box2 at hb2'
    obtain ⟨g0, g1, g2, g3, g4, g5, g6, g7, g8, g9, g10, g11, g12, g13, g14, g15, g16, g17, g18⟩ := hb2'
    have hgd := fun (x y : Operand) (A B : Array Value) (w : World) => guard26 .eql x y A B w
    have heq : ∀ w, (binOp .eql 26 (.agg #[.int .i64 T, .int .i64 V, .int .i64 i, .int .i64 l, .bool fr]) (.agg #[.int .i64 T, .int .i64 V, .int .i64 i, .int .i64 l, .bool fr])).run Try.prog w = .ok (.bool true) w := fun w => by rw [eq26]; simp
    go_region_held3 (fun w' => w'.cell? ⟨p, 0, none⟩ = some (.int .i64 T) ∧ w'.cell? ⟨p, 1, none⟩ = some (.int .i64 V) ∧ w'.cell? ⟨p, 2, none⟩ = some (.int .i64 i) ∧ w'.cell? ⟨p, 3, none⟩ = some (.int .i64 l) ∧ w'.cell? ⟨p, 4, none⟩ = some (.bool fr) ∧ w'.cell? ⟨q, 0, none⟩ = some (.int .i64 T) ∧ w'.cell? ⟨q, 1, none⟩ = some (.int .i64 V) ∧ w'.cell? ⟨q, 2, none⟩ = some (.int .i64 i) ∧ w'.cell? ⟨q, 3, none⟩ = some (.int .i64 l) ∧ w'.cell? ⟨q, 4, none⟩ = some (.bool fr) ∧ w'.cell? ⟨N, 0, none⟩ = some (.int .i64 t) ∧ w'.cell? ⟨N, 1, none⟩ = some (.int .i64 f) ∧ w'.cell? ⟨N, 2, none⟩ = some (.int .i64 i) ∧ w'.cell? ⟨N, 3, none⟩ = some (.int .i64 l) ∧ w'.cell? ⟨N, 4, none⟩ = some (.bool fr) ∧ w'.cell? ⟨N + 1, 0, none⟩ = some (.int .i64 at_) ∧ w'.cell? ⟨N + 1, 1, none⟩ = some (.int .i64 from_) ∧ w'.cell? ⟨N + 1, 2, none⟩ = some (.int .i64 ai) ∧ w'.cell? ⟨N + 1, 3, none⟩ = some (.int .i64 al)) (first | exact hb2 | (refine Box2.kp hb2 ?_; (first | (refine Kp.trans ?_ hkk; (repeat (first | exact Kp.refl _ _ | apply Kp.drew | apply Kp.alloc))) | (repeat (first | exact Kp.refl _ _ | apply Kp.drew | apply Kp.alloc)))))
      (first | (go_at_call 10; refine (me_any T V i l fr _).mono ?_; rintro e w5 ⟨rfl, rfl⟩; simp only [vMe]) | (go_at_call 13; refine (up_prog ai al i l _).mono ?_; rintro e w5 ⟨rfl, rfl⟩) | (go_at_call 14; refine (up_ref ai al i l _).mono ?_; rintro e w5 ⟨rfl, rfl⟩) | (go_at_call 15; refine (knows_any _).mono ?_; rintro e w5 ⟨rfl, hkk⟩))
    go_wp2
    go_ret
    refine ⟨rfl, Kp.belowW (hK4.trans (Kp.trans ?_ hkk.no))⟩
    repeat (first | exact Kp.refl _ _ | apply Kp.drew | apply Kp.alloc)

theorem open_me {H : Type} {enc : TypeId × Value → H} {W : World} {base : Nat} {v : Value} {d : DataW H} {p : List MemPlace} (ho : Value.okWide Try.prog W .any base 23 v)
    (h : DataW.Trod enc Try.prog W 0 (fun _ => true) true 23 v d p) : ∃ t f i l fr, v = vMe t f i l fr := by
  obtain ⟨cs, rfl, hsz, n, hg⟩ := open_struct Try.underlying23 (by kernel_rfl) ho h
  have hs : cs.size = 5 := hsz.trans (by kernel_rfl)
  obtain ⟨c0, _, e0, t0⟩ := hg 0 _ rfl (by kernel_rfl)
  obtain ⟨c1, _, e1, t1⟩ := hg 1 _ rfl (by kernel_rfl)
  obtain ⟨c2, _, e2, t2⟩ := hg 2 _ rfl (by kernel_rfl)
  obtain ⟨c3, _, e3, t3⟩ := hg 3 _ rfl (by kernel_rfl)
  obtain ⟨c4, _, e4, t4⟩ := hg 4 _ rfl (by kernel_rfl)
  obtain ⟨z0, rfl, _⟩ := open_cell_int Try.underlying3 t0
  obtain ⟨z1, rfl, _⟩ := open_cell_int Try.underlying3 t1
  obtain ⟨z2, rfl, _⟩ := open_cell_int Try.underlying3 t2
  obtain ⟨z3, rfl, _⟩ := open_cell_int Try.underlying3 t3
  obtain ⟨z4, rfl⟩ := open_cell_bool Try.underlying4 t4
  refine ⟨z0, z1, z2, z3, z4, ?_⟩
  unfold vMe
  congr 1
  apply Array.ext_getElem?
  intro j
  match j with
  | 0 => simpa using e0
  | 1 => simpa using e1
  | 2 => simpa using e2
  | 3 => simpa using e3
  | 4 => simpa using e4
  | j + 5 => simp [Array.getElem?_eq_none (show cs.size ≤ j + 5 by omega)]
theorem open_ask {H : Type} {enc : TypeId × Value → H} {W : World} {base : Nat} {v : Value} {d : DataW H} {p : List MemPlace} (ho : Value.okWide Try.prog W .any base 25 v)
    (h : DataW.Trod enc Try.prog W 0 (fun _ => true) true 25 v d p) : ∃ t f i l, v = vAsk t f i l := by
  obtain ⟨cs, rfl, hsz, n, hg⟩ := open_struct Try.underlying25 (by kernel_rfl) ho h
  have hs : cs.size = 4 := hsz.trans (by kernel_rfl)
  obtain ⟨c0, _, e0, t0⟩ := hg 0 _ rfl (by kernel_rfl)
  obtain ⟨c1, _, e1, t1⟩ := hg 1 _ rfl (by kernel_rfl)
  obtain ⟨c2, _, e2, t2⟩ := hg 2 _ rfl (by kernel_rfl)
  obtain ⟨c3, _, e3, t3⟩ := hg 3 _ rfl (by kernel_rfl)
  obtain ⟨z0, rfl, _⟩ := open_cell_int Try.underlying3 t0
  obtain ⟨z1, rfl, _⟩ := open_cell_int Try.underlying3 t1
  obtain ⟨z2, rfl, _⟩ := open_cell_int Try.underlying3 t2
  obtain ⟨z3, rfl, _⟩ := open_cell_int Try.underlying3 t3
  refine ⟨z0, z1, z2, z3, ?_⟩
  unfold vAsk
  congr 1
  apply Array.ext_getElem?
  intro j
  match j with
  | 0 => simpa using e0
  | 1 => simpa using e1
  | 2 => simpa using e2
  | 3 => simpa using e3
  | j + 4 => simp [Array.getElem?_eq_none (show cs.size ≤ j + 4 by omega)]

set_option maxRecDepth 100000 in
theorem lifted (os : Os) (started : os.Started) (H : Type) (enc : TypeId × Value → H) :
    ReturnsInHanded {} Try.checked os 3 .any (Rows.voteAnswersSpec.pre6 enc Try.prog Try.f3 Rows.voteAnswersRow.domain false) (Rows.voteAnswersSpec.post enc Try.prog Try.f3 false true false false) := by
  refine returnsInHanded_of_change (C := Try.checked) own started (by kernel_rfl) Try.func3
    (ChangeSpec.witness6 (enc := enc) (C := Try.checked) false ⟨#[], #[.agg #[.int .i64 0, .int .i64 0, .int .i64 0, .int .i64 0, .bool false], .agg #[.int .i64 0, .int .i64 0, .int .i64 0, .int .i64 0]], []⟩ 8 (by kernel_rfl) (by kernel_rfl) (by kernel_rfl) (by kernel_rfl)) ?_
  intro W base args ds gs before hval0 hW _ _
  have hval : ∀ (j : Nat) t v, Try.f3.params[j]? = some t → args[j]? = some v → Value.okWide Try.prog W .any base t v := hval0
  have hW' := hW
  obtain ⟨p, q, hA0, hV, rfl, hfz, hnd⟩ := hW
  have hA : DataW.TrodAll enc Try.prog W 0 (fun _ => true) true Try.f3.params.toList args.toList ds p := hA0
  rw [Try.params3] at hA hval
  obtain ⟨v0, vs0, d0, ds0, p0, q0, hargs, rfl, rfl, h0, r0⟩ := trodAll_cons hA
  obtain ⟨v1, vs1, d1, ds1, p1, q1, rfl, rfl, rfl, h1, r1⟩ := trodAll_cons r0
  obtain ⟨rfl, rfl, rfl⟩ := trodAll_nil r1
  obtain rfl : args = #[v0, v1] := by cases args; simp_all
  obtain ⟨rfl, rfl⟩ := trodVars_none hV
  have o0 := hval 0 23 v0 rfl rfl
  have o1 := hval 1 25 v1 rfl rfl
  obtain ⟨t, f, i, l, fr, rfl⟩ := open_me o0 h0
  obtain ⟨at_, from_, ai, al, rfl⟩ := open_ask o1 h1
  refine (walk t f i l fr at_ from_ ai al W).mono fun e W' ⟨he, hg⟩ => ?_
  subst he
  exact ⟨_, rfl, law_post laidOut (of_decide_eq_true (by kernel_rfl)) rfl Try.underlying4 rfl ⟨rfl, rfl, rfl⟩ hW' hg⟩

theorem over : Rows.voteAnswersRow.holds Try.pinned (OpenSpec.ofChange Rows.voteAnswersSpec) :=
  OpenClaim.holds_of_wide 3 Try.f3 rfl rfl rfl rfl rfl rfl rfl ⟨rfl, rfl, rfl, rfl, rfl⟩ rfl rfl rfl rfl rfl (by kernel_rfl) Try.func3 (by kernel_rfl)
    (of_decide_eq_true (by kernel_rfl)) (by unfold Func.isWrapper; first | (rw [if_pos (by decide +kernel)]; kernel_rfl) | (rw [if_neg (by decide +kernel)]; exact ⟨rfl, rfl⟩))
    (fun os started H enc _ => lifted os started H enc)

theorem proved : Rows.VoteAnswersSaid :=
  over
#print axioms proved
end Go.Proofs.Ythpplmplfamjhaa.voteAnswers
