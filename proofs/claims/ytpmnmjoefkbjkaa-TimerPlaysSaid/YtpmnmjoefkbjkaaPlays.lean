/-
  TimerPlays: for every two ints and every two lists of ops the law returns true and leaves its arguments as they were. No condition.
-/
import Derived.Test.YtpmnmjoefkbjkaaStep
import Derived.Test.YtpmnmjoefkbjkaaFin
import Derived.Deep.SlicePairs
namespace Go.Proofs.Ytpmnmjoefkbjkaa.timerPlays
open Go.ChangeShapes Go.WideShapes Go.ChangeAt Go.RowKit Go.Deep

/-- A list of ops in memory: its elements' two numbers. -/
structure Ops (W : World) (a : Option Addr) (len : Nat) (K D : Nat → Int) : Prop where
  max : len ≤ maxLen
  at_ : ∀ i, i < len → ∃ b off, a = some ⟨b, off, none⟩ ∧ W.cell? ⟨b, off + i * 2, none⟩ = some (.int .i64 (K i)) ∧ W.cell? ⟨b, off + i * 2 + 1, none⟩ = some (.int .i64 (D i))

theorem open_ops {H : Type} {enc : TypeId × Value → H} {W : World} {base : Nat} {v : Value} {d : DataW H} {p : List MemPlace} (ho : Value.okWide Try.prog W .any base 22 v)
    (h : DataW.Trod enc Try.prog W 0 (fun _ => true) true 22 v d p) : ∃ a len cap K D, v = .slice a len cap ∧ Ops W a len K D := by
  obtain ⟨a0, len, cap, rfl⟩ := okWide_slice Try.underlying22 ho
  obtain ⟨fuel, hf⟩ := h
  rcases open_slice_pairs Try.underlying22 Try.underlying33 (by kernel_rfl) rfl rfl (by kernel_rfl) (by kernel_rfl) hf with ⟨hcs, _⟩ | ⟨a, len', cap', m, n, V0, V1, D0, D1, P0, P1, hcs, _, hl, hm, hmm, _, hx⟩
  · simp [Value.cells] at hcs
    obtain ⟨rfl, rfl, rfl⟩ := hcs
    exact ⟨none, 0, 0, fun _ => 0, fun _ => 0, rfl, ⟨Nat.zero_le _, fun i hi => by omega⟩⟩
  · simp [Value.cells] at hcs
    obtain ⟨rfl, rfl, rfl⟩ := hcs
    have hlm : len ≤ m := by rw [hmm]; simp; exact hl
    have key : ∀ i, i < len → ∃ q : Int × Int, V0 i = .int .i64 q.1 ∧ V1 i = .int .i64 q.2 := by
      intro i hi
      obtain ⟨_, _, g0, g1⟩ := hx i (by omega)
      obtain ⟨x, e0, _, _⟩ := DataW.trod_int Try.underlying3 g0
      obtain ⟨y, e1, _, _⟩ := DataW.trod_int Try.underlying3 g1
      exact ⟨(x, y), by simpa using e0, by simpa using e1⟩
    obtain ⟨q, hq⟩ := choose_lt key
    refine ⟨some a, len, cap, fun i => (q i).1, fun i => (q i).2, rfl, ⟨by omega, fun i hi => ?_⟩⟩
    obtain ⟨c0, c1, _, _⟩ := hx i (by omega)
    obtain ⟨h0, h1⟩ := hq i hi
    rw [h0] at c0
    rw [h1] at c1
    obtain ⟨b, off, sp⟩ := a
    have hsp : sp = none := by
      cases sp with
      | none => rfl
      | some s =>
        have h0 := hx 0 (by omega)
        obtain ⟨z0, _⟩ := h0
        simp [Addr.add, World.cell?] at z0
        split at z0 <;> simp at z0
    subst hsp
    rw [add_plain] at c0 c1
    exact ⟨b, off, rfl, c0, by simpa [Nat.add_assoc] using c1⟩
theorem both_kp {S : Nat → Prop} {w w' : World} {b c : Nat} {n lim least : Int} (h : Both w b c n lim least) (k : Kp S w w') (hb : ¬ S b) (hc : ¬ S c) : Both w' b c n lim least :=
  ⟨k.heap h.t hb, k.heap h.r hc, h.ne, h.n0, h.nl, h.l1, h.l2, h.lm⟩
theorem Ops.cells {W w : World} {a : Option Addr} {len : Nat} {K D : Nat → Int} (h : Ops W a len K D) (hb : Kp (fun k => W.heap.size ≤ k) W w) {i : Nat} (hi : i < len) :
    ∃ b off, a = some ⟨b, off, none⟩ ∧ w.cell? ⟨b, off + i * 2, none⟩ = some (.int .i64 (K i)) ∧ w.cell? ⟨b, off + i * 2 + 1, none⟩ = some (.int .i64 (D i)) := by
  obtain ⟨b, off, e, h0, h1⟩ := h.at_ i hi
  have hlt : b < W.heap.size := World.block_lt_of_cell? W _ h0
  exact ⟨b, off, e, (hb.cell (p := ⟨b, off + i * 2, none⟩) hlt (by show ¬ W.heap.size ≤ b; omega)).trans h0, (hb.cell (p := ⟨b, off + i * 2 + 1, none⟩) hlt (by show ¬ W.heap.size ≤ b; omega)).trans h1⟩

theorem walk_no (a0 a1 : Int) (x : Option Addr) (lx cx : Nat) (y : Option Addr) (ly cy : Nat) (Kx Dx Ky Dy : Nat → Int) (W : World) (hx : Ops W x lx Kx Dx) (hy : Ops W y ly Ky Dy) (h : a0 < 1 ∨ 1000 < a0) :
    Calls Try.prog 3 #[.int .i64 a0, .int .i64 a1, .slice x lx cx, .slice y ly cy] W fun e w' => e = .returned (.bool true) ∧ Below W.heap.size W w' := by
  have mx := hx.max
  have my := hy.max
  unfold maxLen at mx my
  have HX := Lib.hid hx
  have HY := Lib.hid hy
  clear hx hy
  go_enter Try.func3, Try.ntmps3
  go_wp2_with fail
  refine (new_no _ a0 a1 h).mono ?_
  rintro e w' ⟨rfl, rfl⟩
  go_wp2_with fail
  refine (new_yes _ 3 1 (by omega) (by omega)).mono ?_
  rintro e w2 ⟨rfl, hU, hk2⟩
  go_wp2_with fail
  refine (rnew_no _ a0 a1 h).mono ?_
  rintro e w' ⟨rfl, rfl⟩
  go_wp2_with fail
  refine (rnew_yes _ 3 1 (by omega) (by omega)).mono ?_
  rintro e w4 ⟨rfl, hR, hk4⟩
  rw [show limOf 3 1 = 4 from by decide] at hU hR
  go_wp2_with (first | (go_at_call 9; refine (num_any _ _).mono ?_; rintro e w' ⟨rfl, rfl⟩) | (go_at_call 10; refine (knows_any _).mono ?_; rintro e w5 ⟨rfl, hk5⟩))
  have hlt := lt_of_block hU
  obtain ⟨C, hC⟩ : ∃ C, C = w2.heap.size := ⟨_, rfl⟩
  rw [← hC] at hR hlt ⊢
  have hb : Both w5 W.heap.size C 0 4 3 := ⟨hk5.heap (hk4.heap hU (fun h => h)) (fun h => h), hk5.heap hR (fun h => h), by omega, by omega, by omega, by omega, by omega, by omega⟩
  have hB5 : Kp (fun k => W.heap.size ≤ k) W w5 := hk2.no.trans (hk4.no.trans hk5.no)
  clear hC hU hR hk2 hk4 hk5
  go_loopw [15] (fun i wr => ∃ (k : Nat) (n lim : Int), i = .int .i64 k ∧ (k ≤ lx ∨ k ≤ ly) ∧ Both wr W.heap.size C n lim 3 ∧ Kp (fun k => W.heap.size ≤ k) W wr) (fun i _ => (max lx ly : Nat) - (intOf i).toNat)
  case atStart => exact ⟨0, 0, 4, rfl, by omega, hb, hB5⟩
  case round =>
    obtain ⟨k, n, lim, rfl, hk, hb, hB⟩ := hrel
    by_cases h2 : k < ly
    · obtain ⟨b, off, rfl, e0, e1⟩ := HY.out.cells hB h2
      by_cases h1 : k < lx
      · go_wp2_with (first | (go_at_call 11; refine (step_any hb (Ky k) (Dy k)).mono ?_; rintro e w6 ⟨rfl, ⟨n', lim', hb'⟩, hk'⟩))
        go_roundw
        case rel => exact ⟨k + 1, n', lim', by go_num, by omega, hb', hB.trans (hk'.mono (by intro j _ h; have := hb.ne; omega))⟩
        case measure => simp [intOf]; omega
      · go_wp2_with (first | (go_at_call 11; refine (step_any hb (Ky k) (Dy k)).mono ?_; rintro e w6 ⟨rfl, ⟨n', lim', hb'⟩, hk'⟩))
        go_roundw
        case rel => exact ⟨k + 1, n', lim', by go_num, by omega, hb', hB.trans (hk'.mono (by intro j _ h; have := hb.ne; omega))⟩
        case measure => simp [intOf]; omega
    · by_cases h1 : k < lx
      · go_wp2_with fail
        go_roundw
        case rel => exact ⟨k + 1, n, lim, by go_num, by omega, hb, hB⟩
        case measure => simp [intOf]; omega
      · go_wp2_with fail
        go_ret
        exact ⟨rfl, hB.belowW⟩

theorem walk_yes (a0 a1 : Int) (x : Option Addr) (lx cx : Nat) (y : Option Addr) (ly cy : Nat) (Kx Dx Ky Dy : Nat → Int) (W : World) (hx : Ops W x lx Kx Dx) (hy : Ops W y ly Ky Dy) (l1 : 1 ≤ a0) (l2 : a0 ≤ 1000) :
    Calls Try.prog 3 #[.int .i64 a0, .int .i64 a1, .slice x lx cx, .slice y ly cy] W fun e w' => e = .returned (.bool true) ∧ Below W.heap.size W w' := by
  have mx := hx.max
  have my := hy.max
  unfold maxLen at mx my
  have HX := Lib.hid hx
  have HY := Lib.hid hy
  clear hx hy
  have lo := limOf_lo a0 a1 l1
  go_enter Try.func3, Try.ntmps3
  go_wp2_with fail
  refine (new_yes _ a0 a1 l1 l2).mono ?_
  rintro e w1 ⟨rfl, hT, hk1⟩
  go_wp2_with fail
  refine (new_yes _ 3 1 (by omega) (by omega)).mono ?_
  rintro e w2 ⟨rfl, hU, hk2⟩
  go_wp2_with fail
  refine (rnew_yes _ a0 a1 l1 l2).mono ?_
  rintro e w3 ⟨rfl, hR, hk3⟩
  go_wp2_with fail
  refine (rnew_yes _ 3 1 (by omega) (by omega)).mono ?_
  rintro e w4 ⟨rfl, hQ, hk4⟩
  rw [show limOf 3 1 = 4 from by decide] at hU hQ
  go_wp2_with (first | (go_at_call 9; refine (num_any _ _).mono ?_; rintro e w' ⟨rfl, rfl⟩) | (go_at_call 10; refine (knows_any _).mono ?_; rintro e w5 ⟨rfl, hk5⟩))
  have z1 := lt_of_block hT
  have z2 := lt_of_block hU
  have z3 := lt_of_block hR
  obtain ⟨B, hB⟩ : ∃ B, B = w1.heap.size := ⟨_, rfl⟩
  obtain ⟨C, hC⟩ : ∃ C, C = w2.heap.size := ⟨_, rfl⟩
  obtain ⟨D, hD⟩ : ∃ D, D = w3.heap.size := ⟨_, rfl⟩
  rw [← hB] at hU z1 z2
  rw [← hC] at hR z2 z3
  rw [← hD] at hQ z3
  rw [← hB, ← hC, ← hD]
  have hb : Both w5 W.heap.size C 0 (limOf a0 a1) a0 := ⟨hk5.heap (hk4.heap (hk3.heap (hk2.heap hT (fun h => h)) (fun h => h)) (fun h => h)) (fun h => h), hk5.heap (hk4.heap hR (fun h => h)) (fun h => h), by omega, by omega, by omega, by omega, by omega, by omega⟩
  have hb2 : Both w5 B D 0 4 3 := ⟨hk5.heap (hk4.heap (hk3.heap hU (fun h => h)) (fun h => h)) (fun h => h), hk5.heap hQ (fun h => h), by omega, by omega, by omega, by omega, by omega, by omega⟩
  have hB5 : Kp (fun k => W.heap.size ≤ k) W w5 := hk1.no.trans (hk2.no.trans (hk3.no.trans (hk4.no.trans hk5.no)))
  clear hB hC hD hT hU hR hQ hk1 hk2 hk3 hk4 hk5
  go_loopw [15] (fun i wr => ∃ (k : Nat) (n lim m mim : Int), i = .int .i64 k ∧ (k ≤ lx ∨ k ≤ ly) ∧ Both wr W.heap.size C n lim a0 ∧ Both wr B D m mim 3 ∧ Kp (fun k => W.heap.size ≤ k) W wr) (fun i _ => (max lx ly : Nat) - (intOf i).toNat)
  case atStart => exact ⟨0, 0, _, 0, 4, rfl, by omega, hb, hb2, hB5⟩
  case round =>
    clear hb hb2 hB5
    obtain ⟨k, n, lim, m, mim, rfl, hk, hb, hb2, hB⟩ := hrel
    by_cases h1 : k < lx
    · obtain ⟨b, off, rfl, e0, e1⟩ := HX.out.cells hB h1
      go_wp2_with fail
      refine (step_any hb (Kx k) (Dx k)).mono ?_
      rintro e w6 ⟨rfl, ⟨n', lim', hb'⟩, hk'⟩
      have hb2' : Both w6 B D m mim 3 := both_kp hb2 hk' (by omega) (by omega)
      have hB' : Kp (fun k => W.heap.size ≤ k) W w6 := hB.trans (hk'.mono (by intro j _ h; omega))
      clear e0 e1
      by_cases h2 : k < ly
      · obtain ⟨b2, off2, rfl, e0, e1⟩ := HY.out.cells hB' h2
        go_wp2_with fail
        refine (step_any hb2' (Ky k) (Dy k)).mono ?_
        rintro e w7 ⟨rfl, ⟨m', mim', hb2''⟩, hk''⟩
        have hb'' : Both w7 W.heap.size C n' lim' a0 := both_kp hb' hk'' (by omega) (by omega)
        have hB'' : Kp (fun k => W.heap.size ≤ k) W w7 := hB'.trans (hk''.mono (by intro j _ h; omega))
        go_wp2
        go_roundw
        case rel => exact ⟨k + 1, n', lim', m', mim', by go_num, by omega, hb'', hb2'', hB''⟩
        case measure => simp [intOf]; omega
      · go_wp2
        go_roundw
        case rel => exact ⟨k + 1, n', lim', m, mim, by go_num, by omega, hb', hb2', hB'⟩
        case measure => simp [intOf]; omega
    · by_cases h2 : k < ly
      · obtain ⟨b2, off2, rfl, e0, e1⟩ := HY.out.cells hB h2
        go_wp2_with fail
        refine (step_any hb2 (Ky k) (Dy k)).mono ?_
        rintro e w7 ⟨rfl, ⟨m', mim', hb2''⟩, hk''⟩
        have hb'' : Both w7 W.heap.size C n lim a0 := both_kp hb hk'' (by omega) (by omega)
        have hB'' : Kp (fun k => W.heap.size ≤ k) W w7 := hB.trans (hk''.mono (by intro j _ h; omega))
        go_wp2
        go_roundw
        case rel => exact ⟨k + 1, n, lim, m', mim', by go_num, by omega, hb'', hb2'', hB''⟩
        case measure => simp [intOf]; omega
      · go_wp2_with fail
        go_ret
        exact ⟨rfl, hB.belowW⟩

theorem walk (a0 a1 : Int) (x : Option Addr) (lx cx : Nat) (y : Option Addr) (ly cy : Nat) (Kx Dx Ky Dy : Nat → Int) (W : World) (hx : Ops W x lx Kx Dx) (hy : Ops W y ly Ky Dy) :
    Calls Try.prog 3 #[.int .i64 a0, .int .i64 a1, .slice x lx cx, .slice y ly cy] W fun e w' => e = .returned (.bool true) ∧ Below W.heap.size W w' := by
  by_cases h : 1 ≤ a0 ∧ a0 ≤ 1000
  · exact walk_yes a0 a1 x lx cx y ly cy Kx Dx Ky Dy W hx hy h.1 h.2
  · exact walk_no a0 a1 x lx cx y ly cy Kx Dx Ky Dy W hx hy (by omega)

set_option maxRecDepth 100000 in
theorem lifted (os : Os) (started : os.Started) (H : Type) (enc : TypeId × Value → H) :
    ReturnsInHanded {} Try.checked os 3 .any (Rows.timerPlaysSpec.pre6 enc Try.prog Try.f3 Rows.timerPlaysRow.domain false) (Rows.timerPlaysSpec.post enc Try.prog Try.f3 false true false false) := by
  refine returnsInHanded_of_change (C := Try.checked) own started (by kernel_rfl) Try.func3
    (ChangeSpec.witness6 (enc := enc) (C := Try.checked) false ⟨#[], #[.int .i64 0, .int .i64 0, .slice none 0 0, .slice none 0 0], []⟩ 8 (by kernel_rfl) (by kernel_rfl) (by kernel_rfl) (by kernel_rfl)) ?_
  intro W base args ds gs before hval0 hW _ _
  have hval : ∀ (j : Nat) t v, Try.f3.params[j]? = some t → args[j]? = some v → Value.okWide Try.prog W .any base t v := hval0
  have hW' := hW
  obtain ⟨p, q, hA0, hV, rfl, hfz, hnd⟩ := hW
  have hA : DataW.TrodAll enc Try.prog W 0 (fun _ => true) true Try.f3.params.toList args.toList ds p := hA0
  rw [Try.params3] at hA hval
  obtain ⟨v0, vs0, d0, ds0, p0, q0, hargs, rfl, rfl, h0, r0⟩ := trodAll_cons hA
  obtain ⟨v1, vs1, d1, ds1, p1, q1, rfl, rfl, rfl, h1, r1⟩ := trodAll_cons r0
  obtain ⟨v2, vs2, d2, ds2, p2, q2, rfl, rfl, rfl, h2, r2⟩ := trodAll_cons r1
  obtain ⟨v3, vs3, d3, ds3, p3, q3, rfl, rfl, rfl, h3, r3⟩ := trodAll_cons r2
  obtain ⟨rfl, rfl, rfl⟩ := trodAll_nil r3
  obtain rfl : args = #[v0, v1, v2, v3] := by cases args; simp_all
  obtain ⟨rfl, rfl⟩ := trodVars_none hV
  obtain ⟨a0, rfl, rfl, _, w0⟩ := open_int Try.underlying3 (hval 0 3 v0 rfl rfl) h0
  obtain ⟨a1, rfl, rfl, _, w1⟩ := open_int Try.underlying3 (hval 1 3 v1 rfl rfl) h1
  have o2 := hval 2 22 v2 rfl rfl
  have o3 := hval 3 22 v3 rfl rfl
  obtain ⟨x, lx, cx, Kx, Dx, rfl, hx⟩ := open_ops o2 h2
  obtain ⟨y, ly, cy, Ky, Dy, rfl, hy⟩ := open_ops o3 h3
  refine (walk a0 a1 x lx cx y ly cy Kx Dx Ky Dy W hx hy).mono fun e W' ⟨he, hg⟩ => ?_
  subst he
  exact ⟨_, rfl, law_post laidOut (of_decide_eq_true (by kernel_rfl)) rfl Try.underlying4 rfl ⟨rfl, rfl, rfl⟩ hW' hg⟩

theorem over : Rows.timerPlaysRow.holds Try.pinned (OpenSpec.ofChange Rows.timerPlaysSpec) :=
  OpenClaim.holds_of_wide 3 Try.f3 rfl rfl rfl rfl rfl rfl rfl ⟨rfl, rfl, rfl, rfl, rfl⟩ rfl rfl rfl rfl rfl (by kernel_rfl) Try.func3 (by kernel_rfl)
    (of_decide_eq_true (by kernel_rfl)) (by unfold Func.isWrapper; first | (rw [if_pos (by decide +kernel)]; kernel_rfl) | (rw [if_neg (by decide +kernel)]; exact ⟨rfl, rfl⟩))
    (fun os started H enc _ => lifted os started H enc)

theorem proved : Rows.TimerPlaysSaid :=
  over
#print axioms proved
end Go.Proofs.Ytpmnmjoefkbjkaa.timerPlays
