/-
  VoteMore: for every two lists of ints and every int the law returns true and leaves its arguments as they were. No condition.
-/
import Derived.Test.YthpplmplfamjhaaIl
import Derived.Test.YthpplmplfamjhaaApp
namespace Go.Proofs.Ythpplmplfamjhaa.voteMore
open Go.ChangeShapes Go.WideShapes Go.ChangeAt Go.RowKit Go.Deep
set_option linter.unusedVariables false

theorem among_more (y : List Int) (o : Int) : ∀ l : List Int, l.Nodup → among l y ≤ among l (y ++ [o]) ∧ among l (y ++ [o]) ≤ among l y + (if o ∈ l then 1 else 0)
  | [], _ => by simp [among]
  | x :: l, h => by
    simp only [List.nodup_cons] at h
    have ih := among_more y o l h.2
    rw [among_cons, among_cons]
    by_cases h1 : x ∈ y
    · have h2 : x ∈ y ++ [o] := by simp [h1]
      rw [if_pos h1, if_pos h2]
      have : (if o ∈ l then 1 else 0) ≤ (if o ∈ x :: l then 1 else 0) := by
        by_cases h3 : o ∈ l <;> simp [h3]
      omega
    · by_cases h2 : x = o
      · subst h2
        have h3 : x ∈ y ++ [x] := by simp
        rw [if_neg h1, if_pos h3]
        have h4 : (if x ∈ l then 1 else 0) = 0 := if_neg h.1
        have h5 : (if x ∈ x :: l then 1 else 0) = 1 := if_pos (List.mem_cons_self ..)
        omega
      · have h3 : x ∉ y ++ [o] := by simp [h1, h2]
        rw [if_neg h1, if_neg h3]
        have : (if o ∈ l then 1 else 0) ≤ (if o ∈ x :: l then 1 else 0) := by
          by_cases h3 : o ∈ l <;> simp [h3]
        omega
theorem cnt_more (s y : List Int) (o : Int) : cnt s y ≤ cnt s (y ++ [o]) ∧ cnt s (y ++ [o]) ≤ cnt s y + 1 := by
  have h := among_more y o (once s) (once_nodup s)
  unfold cnt
  split at h <;> omega
theorem won_more {s y : List Int} {o : Int} (h : won s y = true) : won s (y ++ [o]) = true := by
  unfold won at h ⊢
  have h1 := of_decide_eq_true h
  have := (cnt_more s y o).1
  exact decide_eq_true (by omega)
theorem won_self (s : List Int) : won s s = decide (0 < s.length) := by
  have h : cnt s s = (once s).length := by
    unfold cnt among
    rw [List.countP_eq_length]
    intro x hx
    simpa using (mem_once s x).1 hx
  unfold won
  rw [h, decide_eq_decide]
  cases s with
  | nil => simp [once]
  | cons x r =>
    have : x ∈ once (x :: r) := (mem_once _ _).2 (List.mem_cons_self ..)
    have := List.length_pos_of_mem this
    simp only [List.length_cons]
    omega
theorem won_nil (s : List Int) : won s [] = false := by
  have h : cnt s [] = 0 := by unfold cnt among; simp
  unfold won
  rw [h]
  simp

theorem Owns.ints {w : World} {B n cap : Nat} {a : Option Addr} {zs : List Int} (h : Owns w B 3 1 a n cap (zs.map (Value.int .i64))) : Ints w a zs := by
  intro i hi
  obtain ⟨g, e, hc⟩ := Owns.cell h (j := i) (u := .int .i64 (zs.getD i 0)) (by simp [List.getD, hi])
  exact ⟨g, 0, e, by rw [Nat.zero_add]; exact hc⟩
theorem Ints.news {w : World} {a : Option Addr} {zs : List Int} (h : Ints w a zs) : ∀ j u, (zs.map (Value.int .i64))[j]? = some u → ∃ ad, a = some ad ∧ w.cell? (ad.add j) = some u := by
  intro j u hu
  rw [List.getElem?_map, Option.map_eq_some_iff] at hu
  obtain ⟨z, hz, rfl⟩ := hu
  have hj : j < zs.length := (List.getElem?_eq_some_iff.1 hz).1
  obtain ⟨b, off, e, hc⟩ := h j hj
  refine ⟨_, e, ?_⟩
  rw [add_plain, hc]
  simp [List.getD, hz]
theorem one_int (zs : List Int) : ∀ u ∈ zs.map (Value.int .i64), u.oneCell' = true := by
  intro u hu
  obtain ⟨z, _, rfl⟩ := List.mem_map.1 hu
  rfl
theorem info3 : (Try.prog.info? 3).map (fun i => (i.zero, i.size, i.bytes)) = some (some (.int .i64 0), 1, 8) := by kernel_rfl

set_option maxHeartbeats 4000000 in
theorem walk (x : Option Addr) (zs : List Int) (cx : Nat) (y : Option Addr) (ys : List Int) (cy : Nat) (one : Int) (W : World) (hx : Ints W x zs) (hy : Ints W y ys)
    (mx : zs.length ≤ 17592186043904) (my : ys.length ≤ 17592186043904) :
    Calls Try.prog 8 #[.slice x zs.length cx, .slice y ys.length cy, .int .i64 one] W fun e w' => e = .returned (.bool true) ∧ Below W.heap.size W w' := by
  go_enter Try.func8, Try.ntmps8
  go_wp2_with fail
  refine (won_any hx hy (by omega) (by unfold maxLen; omega) cx cy).mono ?_
  rintro e w1 ⟨rfl, hk1⟩
  have hL : (ys ++ [one]).length = ys.length + 1 := by simp
  go_wp2_with (at_builtin; refine Stop.mk ?_)
  unfold Stop
  refine wpList_app rfl _ _ 37 rfl W.heap.size 3 info3 Try.underlying37 rfl (by decide) rfl (Owns.lit (heap_new _ _) (by have := hk1.size; omega)) rfl (news := ys.map (Value.int .i64)) (by simp) (Ints.news (hy.no (hk1.alloc _))) (one_int _) (by unfold maxLen; omega) (by omega) (by have := hk1.size; simp; omega) ?_
  intro a1 c1 wa1 ho1 hka1
  have hKa1 : Kp (fun _ => False) W wa1 := (hk1.alloc _).andThen hka1 (fun i hi e => by simp [blockOf] at e; have := hk1.size; omega)
  clear hka1
  simp only [Nat.zero_add, List.nil_append] at ho1 ⊢
  go_wp2_with (at_builtin; refine Stop.mk ?_)
  unfold Stop
  refine wpList_app rfl _ _ 37 rfl W.heap.size 3 info3 Try.underlying37 rfl (by decide) rfl (Owns.kp ho1 ((Kp.refl (fun _ => False) _).alloc _) (fun _ _ h => h)) rfl (news := [one].map (Value.int .i64)) (by simp) (fun j u hu => ⟨_, rfl, ?c11⟩) (one_int _) (by unfold maxLen; omega) (by omega) (by have := hKa1.size; simp; omega) ?_
  case c11 =>
    match j, hu with
    | 0, hu => simp at hu; subst hu; simp [Addr.add]
    | j + 1, hu => simp at hu
  intro b1 d1 wb1 hp1 hkb1
  have hKb1 : Kp (fun _ => False) W wb1 := (hKa1.alloc _).andThen hkb1 (fun i hi e => by have := Owns.from ho1 e.symm; omega)
  clear hkb1
  rw [← List.map_append] at hp1
  have hJ1 : Ints wb1 b1 (ys ++ [one]) := Owns.ints hp1
  have hI1 := hx.no hKb1
  have hW := won_any hI1 hJ1 (by omega) (by rw [hL]; unfold maxLen; omega) cx d1
  rw [hL] at hW
  go_wp2_with fail
  refine hW.mono ?_
  clear hW
  rintro e w2 ⟨rfl, hk2⟩
  have hK2 : Kp (fun _ => False) W w2 := hKb1.andThen hk2 (fun _ _ h => h)
  clear hk2 hk1 hKa1 hKb1 ho1 hp1 hJ1 hI1
  go_wp2_with fail
  refine (count_any (hx.no hK2) (hy.no hK2) (by unfold maxLen; omega) (by unfold maxLen; omega) cx cy).mono ?_
  rintro e w3 ⟨rfl, hk3⟩
  have hK3 : Kp (fun _ => False) W w3 := hK2.andThen hk3 (fun _ _ h => h)
  clear hk3 hK2
  go_wp2_with (at_builtin; refine Stop.mk ?_)
  unfold Stop
  refine wpList_app rfl _ _ 37 rfl W.heap.size 3 info3 Try.underlying37 rfl (by decide) rfl (Owns.lit (heap_new _ _) (by have := hK3.size; omega)) rfl (news := ys.map (Value.int .i64)) (by simp) (Ints.news (hy.no (hK3.alloc _))) (one_int _) (by unfold maxLen; omega) (by omega) (by have := hK3.size; simp; omega) ?_
  intro a2 c2 wa2 ho2 hka2
  have hKa2 : Kp (fun _ => False) W wa2 := (hK3.alloc _).andThen hka2 (fun i hi e => by simp [blockOf] at e; have := hK3.size; omega)
  clear hka2
  simp only [Nat.zero_add, List.nil_append] at ho2 ⊢
  go_wp2_with (at_builtin; refine Stop.mk ?_)
  unfold Stop
  refine wpList_app rfl _ _ 37 rfl W.heap.size 3 info3 Try.underlying37 rfl (by decide) rfl (Owns.kp ho2 ((Kp.refl (fun _ => False) _).alloc _) (fun _ _ h => h)) rfl (news := [one].map (Value.int .i64)) (by simp) (fun j u hu => ⟨_, rfl, ?c12⟩) (one_int _) (by unfold maxLen; omega) (by omega) (by have := hKa2.size; simp; omega) ?_
  case c12 =>
    match j, hu with
    | 0, hu => simp at hu; subst hu; simp [Addr.add]
    | j + 1, hu => simp at hu
  intro b2 d2 wb2 hp2 hkb2
  have hKb2 : Kp (fun _ => False) W wb2 := (hKa2.alloc _).andThen hkb2 (fun i hi e => by have := Owns.from ho2 e.symm; omega)
  clear hkb2
  rw [← List.map_append] at hp2
  have hJ2 : Ints wb2 b2 (ys ++ [one]) := Owns.ints hp2
  have hI2 := hx.no hKb2
  have hC := count_any hI2 hJ2 (by unfold maxLen; omega) (by rw [hL]; unfold maxLen; omega) cx d2
  rw [hL] at hC
  go_wp2_with fail
  refine hC.mono ?_
  clear hC
  rintro e w4 ⟨rfl, hk4⟩
  have hK4 : Kp (fun _ => False) W w4 := hKb2.andThen hk4 (fun _ _ h => h)
  clear hk4 hKb2 hKa2 ho2 hp2 hJ2 hI2 hL hK3
  have hmore := @won_more zs ys one
  obtain ⟨g1, g2⟩ := cnt_more zs ys one
  generalize won zs ys = p at hmore ⊢
  generalize won zs (ys ++ [one]) = q at hmore ⊢
  have hcl := among_le (once zs) ys
  have hol := once_length zs
  have gn : cnt zs ys ≤ 17592186043904 := Nat.le_trans hcl (by omega)
  generalize cnt zs ys = n at g1 g2 gn ⊢
  generalize cnt zs (ys ++ [one]) = m at g1 g2 ⊢
  clear hcl hol
  have hself := won_any (hx.no hK4) (hx.no hK4) (by omega) (by unfold maxLen; omega) cx cx
  rw [won_self] at hself
  have hself' : ∀ b : Bool, b = decide (0 < zs.length) → Calls Try.prog 18 #[.slice x zs.length cx, .slice x zs.length cx] w4 fun e w' => e = .returned (.bool b) ∧ Kp (fun _ => False) w4 w' := fun b hb => hb ▸ hself
  have HS := Lib.hid hself'
  have hnil : ∀ w, Kp (fun _ => False) W w → Calls Try.prog 18 #[.slice x zs.length cx, .slice none 0 0] w fun e w' => e = .returned (.bool false) ∧ Kp (fun _ => False) w w' := by
    intro w hk
    have h := won_any (ys := []) (c := none) (hx.no hk) (fun i hi => by simp at hi) (by omega) (by unfold maxLen; simp) cx 0
    rw [won_nil] at h
    exact h
  have HN := Lib.hid hnil
  clear hself hself' hnil hx hy
  have hq : p = true → q = true := hmore
  clear hmore
  cases p <;> cases q
  all_goals try (exact absurd (hq rfl) (by decide))
  all_goals
    clear hq
    obtain ⟨b, hb⟩ : ∃ b : Bool, b = decide (0 < zs.length) := ⟨_, rfl⟩
    have HB := Lib.hid (HS.out b hb)
    have hz : (b = true ∧ 0 < zs.length) ∨ (b = false ∧ ¬ 0 < zs.length) := by
      by_cases h : 0 < zs.length
      · left; exact ⟨by rw [hb]; simp [h], h⟩
      · right; exact ⟨by rw [hb]; simpa using h, h⟩
    clear hb
    rcases hz with ⟨rfl, hz⟩ | ⟨rfl, hz⟩
    all_goals
      go_wp2_with fail
      refine HB.out.mono ?_
      rintro e w5 ⟨rfl, hk5⟩
      have hK5 : Kp (fun _ => False) W w5 := hK4.andThen hk5 (fun _ _ h => h)
      go_wp2_with fail
      refine (HN.out _ hK5).mono ?_
      rintro e w6 ⟨rfl, hk6⟩
      have hK6 : Kp (fun _ => False) W w6 := hK5.andThen hk6 (fun _ _ h => h)
      go_wp2_with (go_at_call 15; refine (knows_any _).mono ?_; rintro e w7 ⟨rfl, hkk⟩)
      go_ret
      exact ⟨rfl, Kp.belowW (hK6.no.trans hkk.no)⟩

set_option maxRecDepth 100000 in
theorem lifted (os : Os) (started : os.Started) (H : Type) (enc : TypeId × Value → H) :
    ReturnsInHanded {} Try.checked os 8 .any (Rows.voteMoreSpec.pre6 enc Try.prog Try.f8 Rows.voteMoreRow.domain false) (Rows.voteMoreSpec.post enc Try.prog Try.f8 false true false false) := by
  refine returnsInHanded_of_change_sized (C := Try.checked) own started (by kernel_rfl) Try.func8
    (ChangeSpec.witness6 (enc := enc) (C := Try.checked) false ⟨#[], #[.slice none 0 0, .slice none 0 0, .int .i64 0], []⟩ 8 (by kernel_rfl) (by kernel_rfl) (by kernel_rfl) (by kernel_rfl)) ?_
  intro W base args ds gs before hval0 hW _ hsz _
  have hval : ∀ (j : Nat) t v, Try.f8.params[j]? = some t → args[j]? = some v → Value.okWide Try.prog W .any base t v := hval0
  have hW' := hW
  obtain ⟨p, q, hA0, hV, rfl, hfz, hnd⟩ := hW
  have hA : DataW.TrodAll enc Try.prog W 0 (fun _ => true) true Try.f8.params.toList args.toList ds p := hA0
  rw [Try.params8] at hA hval
  obtain ⟨v0, vs0, d0, ds0, p0, q0, hargs, rfl, rfl, h0, r0⟩ := trodAll_cons hA
  obtain ⟨v1, vs1, d1, ds1, p1, q1, rfl, rfl, rfl, h1, r1⟩ := trodAll_cons r0
  obtain ⟨v2, vs2, d2, ds2, p2, q2, rfl, rfl, rfl, h2, r2⟩ := trodAll_cons r1
  obtain ⟨rfl, rfl, rfl⟩ := trodAll_nil r2
  obtain rfl : args = #[v0, v1, v2] := by cases args; simp_all
  obtain ⟨rfl, rfl⟩ := trodVars_none hV
  have o0 := hval 0 37 v0 rfl rfl
  have o1 := hval 1 37 v1 rfl rfl
  obtain ⟨a2, rfl, rfl, _, w2⟩ := open_int Try.underlying3 (hval 2 3 v2 rfl rfl) h2
  obtain ⟨x, zs, cx, rfl, hx, lx⟩ := open_il o0 h0
  obtain ⟨y, ys, cy, rfl, hy, ly⟩ := open_il o1 h1
  refine (walk x zs cx y ys cy a2 W hx hy (il_le hsz (j := 0) rfl rfl lx) (il_le hsz (j := 1) rfl rfl ly)).mono fun e W' ⟨he, hg⟩ => ?_
  subst he
  exact ⟨_, rfl, law_post laidOut (of_decide_eq_true (by kernel_rfl)) rfl Try.underlying4 rfl ⟨rfl, rfl, rfl⟩ hW' hg⟩

theorem over : Rows.voteMoreRow.holds Try.pinned (OpenSpec.ofChange Rows.voteMoreSpec) :=
  OpenClaim.holds_of_wide 8 Try.f8 rfl rfl rfl rfl rfl rfl rfl ⟨rfl, rfl, rfl, rfl, rfl⟩ rfl rfl rfl rfl rfl (by kernel_rfl) Try.func8 (by kernel_rfl)
    (of_decide_eq_true (by kernel_rfl)) (by unfold Func.isWrapper; first | (rw [if_pos (by decide +kernel)]; kernel_rfl) | (rw [if_neg (by decide +kernel)]; exact ⟨rfl, rfl⟩))
    (fun os started H enc _ => lifted os started H enc)

theorem proved : Rows.VoteMoreSaid :=
  over
#print axioms proved
end Go.Proofs.Ythpplmplfamjhaa.voteMore
