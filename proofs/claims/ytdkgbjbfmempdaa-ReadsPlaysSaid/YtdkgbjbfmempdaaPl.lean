/-
  ReadsPlays: for every leader and every two lists of calls the law returns true and leaves its arguments as they were. No condition.
-/
import Derived.Test.YtdkgbjbfmempdaaStp
import Derived.Test.YtdkgbjbfmempdaaOpw
namespace Go.Proofs.Ytdkgbjbfmempdaa.readsPlays
open Go.ChangeShapes Go.WideShapes Go.ChangeAt Go.RowKit Go.Deep
set_option linter.unusedVariables false

/-- A book and the document's, of the same reads. -/
def Duo (w : World) (B b r : Nat) (me : Int) (a c : Option Addr) : Prop := ∃ l h cap cc, Book w B b me l h a cap ∧ RBook w B r me l h c cc ∧ (∀ j, Foot b a j → ¬ Foot r c j) ∧ l.length ≤ 100
/-- Their blocks. -/
def Feet (b r : Nat) (a c : Option Addr) : Nat → Prop := fun j => Foot b a j ∨ Foot r c j
theorem Duo.feet {w : World} {B b r : Nat} {me : Int} {a c : Option Addr} (d : Duo w B b r me a c) {j : Nat} (h : Feet b r a c j) : B ≤ j ∧ j < w.heap.size := by
  obtain ⟨l, hh, cap, cc, h1, h2, h3, h4⟩ := d
  exact h.elim (fun e => h1.foot e) (fun e => h2.foot e)
theorem Duo.kp {w w' : World} {B b r : Nat} {me : Int} {a c : Option Addr} (d : Duo w B b r me a c) {S : Nat → Prop} (hk : Kp S w w') (hn : ∀ j, Feet b r a c j → ¬ S j) : Duo w' B b r me a c := by
  obtain ⟨l, hh, cap, cc, h1, h2, h3, h4⟩ := d
  exact ⟨l, hh, cap, cc, h1.kp hk (hn b (.inl (.inl rfl))) (fun g hg => hn g (.inl (.inr hg.symm))), h2.kp hk (hn r (.inr (.inl rfl))) (fun g hg => hn g (.inr (.inr hg.symm))), h3, h4⟩
theorem feet_next {w : World} {b r : Nat} {a c a' c' : Option Addr} (m1 : Moved w a a') (m2 : Moved w c c') {j : Nat} (h : Feet b r a' c' j) (hj : j < w.heap.size) : Feet b r a c j :=
  h.elim (fun e => .inl (m1.old e hj)) (fun e => .inr (m2.old e hj))

theorem step_duo {w : World} {B b r : Nat} {me : Int} {a c : Option Addr} (d : Duo w B b r me a c) {W : World} (hB : B = W.heap.size) (hk : Kp (fun j => B ≤ j) W w) (kind A C D : Int) (x : Option Addr) (zs : List Int) (cx : Nat) (hx : Ints W x zs) (mx : zs.length ≤ 17592186043904) :
    Calls Try.prog 16 #[.pointer (some ⟨b, 0, none⟩), .pointer (some ⟨r, 0, none⟩), .agg #[.int .i64 kind, .int .i64 A, .int .i64 C, .int .i64 D, .slice x zs.length cx]] w fun e w' => e = .returned (.bool true) ∧
      ∃ a' c', Duo w' B b r me a' c' ∧ Kp (Feet b r a c) w w' ∧ Moved w a a' ∧ Moved w c c' := by
  obtain ⟨l, h, cap, cc, h1, h2, h3, h4⟩ := d
  refine Calls.mono (step_any h1 h2 h3 h4 (by have := hk.size; omega) kind A C D x zs cx (fun w' hk' => hx.kp (hk.trans hk') (fun j hj (e : B ≤ j) => by omega)) mx) ?_
  rintro e w' ⟨he, l', h', a', cap', c', cc', k1, k2, k3, k4, k5, k6, k7⟩
  exact ⟨he, a', c', ⟨l', h', cap', cc', k1, k2, k3, k4⟩, k5, k6, k7⟩

theorem _root_.Go.Proofs.Ytdkgbjbfmempdaa.Owns.base {w : World} {B B' : Nat} {e : TypeId} {size : Nat} {a : Option Addr} {n cap : Nat} {xs : List Value} (h : Owns w B e size a n cap xs) (hB : B' ≤ B) : Owns w B' e size a n cap xs := by
  refine ⟨h.1, ?_⟩
  rcases h.2 with h | ⟨g, cap', cur, hv, hge, r⟩
  · exact .inl h
  · exact .inr ⟨g, cap', cur, hv, by omega, r⟩
theorem duo_new {w : World} {B B1 B2 b r : Nat} {me : Int} (h1 : Book w B1 b me [] mute none 0) (h2 : RBook w B2 r me [] mute none 0) (e1 : B ≤ B1) (e2 : B ≤ B2) (hn : b ≠ r) : Duo w B b r me none none :=
  ⟨[], mute, 0, 0, ⟨h1.blk, h1.own.base e1, by have := h1.ge; omega⟩, ⟨h2.blk, h2.own.base e2, by have := h2.ge; omega⟩, (fun j k1 k2 => by
    rcases k1 with k1 | k1
    · rcases k2 with k2 | k2
      · omega
      · cases k2
    · cases k1), by simp⟩
theorem feet_none {b r j : Nat} (h : Feet b r none none j) : j = b ∨ j = r := by
  rcases h with (h | h) | (h | h)
  · exact .inl h
  · cases h
  · exact .inr h
  · cases h

set_option maxRecDepth 100000 in
set_option maxHeartbeats 4000000 in
theorem walk_yes (me : Int) (x : Option Addr) (lx cx : Nat) (O : Nat → OpE) (y : Option Addr) (ly cy : Nat) (U : Nat → OpE) (W : World) (hO : Ops W x lx O) (mx : lx ≤ maxLen) (nx : ∀ k, k < lx → (O k).zs.length ≤ 17592186043904) (hU : Ops W y ly U) (my : ly ≤ maxLen) (ny : ∀ k, k < ly → (U k).zs.length ≤ 17592186043904) (h0 : 0 ≤ me) (h1 : me < 16) :
    Calls Try.prog 5 #[.int .i64 me, .slice x lx cx, .slice y ly cy] W fun e w' => e = .returned (.bool true) ∧ Below W.heap.size W w' := by
  unfold maxLen at mx my
  have HO := Lib.hid hO
  have HU := Lib.hid hU
  have HNX := Lib.hid nx
  have HNY := Lib.hid ny
  clear hO hU nx ny
  go_enter Try.func5, Try.ntmps5
  go_wp2_with fail
  refine (new_good W me h0 h1).mono ?_
  rintro e w1 ⟨b, rfl, hb, hk1⟩
  go_wp2_with fail
  refine (new_good w1 2 (by decide) (by decide)).mono ?_
  rintro e w2 ⟨b2, rfl, hb2, hk2⟩
  go_wp2_with fail
  refine (rnew_good w2 me h0 h1).mono ?_
  rintro e w3 ⟨r, rfl, hr, hk3⟩
  go_wp2_with fail
  refine (rnew_good w3 2 (by decide) (by decide)).mono ?_
  rintro e w4 ⟨r2, rfl, hr2, hk4⟩
  have z1 := lt_of_block hb.blk
  have z2 := lt_of_block hb2.blk
  have z3 := lt_of_block hr.blk
  have z4 := lt_of_block hr2.blk
  have g1 := hb.ge
  have g2 := hb2.ge
  have g3 := hr.ge
  have g4 := hr2.ge
  have s1 := hk1.size
  have s2 := hk2.size
  have s3 := hk3.size
  have s4 := hk4.size
  obtain ⟨B, hB⟩ : ∃ B, B = W.heap.size := ⟨_, rfl⟩
  have d1 : Duo w4 B b r me none none := duo_new (((hb.no hk2).no hk3).no hk4) (hr.no hk4) (by omega) (by omega) (by omega)
  have d2 : Duo w4 B b2 r2 2 none none := duo_new ((hb2.no hk3).no hk4) hr2 (by omega) (by omega) (by omega)
  have hdis : ∀ j, Feet b r none none j → ¬ Feet b2 r2 none none j := fun j e1 e2 => by
    have := feet_none e1
    have := feet_none e2
    omega
  have hK4 : Kp (fun j => B ≤ j) W w4 := hk1.no.trans (hk2.no.trans (hk3.no.trans hk4.no))
  have HB := Lib.hid hB
  have D1 := Lib.hid d1
  have D2 := Lib.hid d2
  have DD := Lib.hid hdis
  have HK := Lib.hid hK4
  clear z1 z2 z3 z4 g1 g2 g3 g4 s1 s2 s3 s4 hb hb2 hr hr2 hk1 hk2 hk3 hk4 hB d1 d2 hdis hK4
  go_wp2_with (first | (go_at_call 9; refine (num_any _ _).mono ?_; rintro e w' ⟨rfl, rfl⟩) | (go_at_call 10; refine (knows_any _).mono ?_; rintro e w5 ⟨rfl, hk5⟩))
  go_loopw [13] (fun q wr => ∃ (k : Nat) (a c a2 c2 : Option Addr), q = .int .i64 k ∧ (k ≤ lx ∨ k ≤ ly) ∧ Duo wr B b r me a c ∧ Duo wr B b2 r2 2 a2 c2 ∧ (∀ j, Feet b r a c j → ¬ Feet b2 r2 a2 c2 j) ∧ Kp (fun j => B ≤ j) W wr) (fun q _ => (max lx ly : Nat) - (intOf q).toNat)
  case atStart => exact ⟨0, none, none, none, none, rfl, by omega, D1.out.kp hk5 (fun _ _ h => h), D2.out.kp hk5 (fun _ _ h => h), DD.out, HK.out.trans hk5.no⟩
  case round =>
    clear D1 D2 DD HK hk5
    obtain ⟨k, a, c, a2, c2, rfl, hk, d1, d2, hd, hK⟩ := hrel
    have HK := Lib.hid hK
    have D1 := Lib.hid d1
    have D2 := Lib.hid d2
    have HD := Lib.hid hd
    clear hK d1 d2 hd
    by_cases p1 : k < lx
    · obtain ⟨ba, oa, hlba, rfl, ⟨e0, e1, e2, e3, e4⟩, hI⟩ := HO.out.kp (HB.out ▸ HK.out) p1
      have hn := HNX.out k p1
      have hkx : (k : Int) < (lx : Int) := by omega
      generalize O k = oe at e0 e1 e2 e3 e4 hI hn
      obtain ⟨ko, A, C, D, xo, zo, co⟩ := oe
      have HI := Lib.hid hI
      have HN := Lib.hid hn
      clear hI hn
      go_wp2_with fail
      refine (step_duo D1.out HB.out HK.out ko A C D xo zo co HI.out HN.out).mono ?_
      rintro e w6 ⟨rfl, a', c', d6, hk6, m6, n6⟩
      have HD6 := Lib.hid (show ∀ j, Feet b r a' c' j → ¬ Feet b2 r2 a2 c2 j from fun j q1 q2 => HD.out j (feet_next m6 n6 q1 (D2.out.feet q2).2) q2)
      have D26 := Lib.hid (D2.out.kp hk6 (fun j q2 q1 => HD.out j q1 q2))
      have HK6 := Lib.hid (HK.out.trans (hk6.mono (fun j _ h => (D1.out.feet h).1)))
      have D16 := Lib.hid d6
      clear e0 e1 e2 e3 e4 d6 hk6 m6 n6 D1 D2 HK HD HI HN
      by_cases p2 : k < ly
      · obtain ⟨bu, ou, hlbu, rfl, ⟨e0, e1, e2, e3, e4⟩, hI⟩ := HU.out.kp (HB.out ▸ HK6.out) p2
        have hn := HNY.out k p2
        have hky : (k : Int) < (ly : Int) := by omega
        generalize U k = oe at e0 e1 e2 e3 e4 hI hn
        obtain ⟨ko, A, C, D, xo, zo, co⟩ := oe
        have HI := Lib.hid hI
        have HN := Lib.hid hn
        clear hI hn
        go_wp2_with fail
        refine (step_duo D26.out HB.out HK6.out ko A C D xo zo co HI.out HN.out).mono ?_
        rintro e w7 ⟨rfl, a7, c7, d7, hk7, m7, n7⟩
        have HD7 := Lib.hid (show ∀ j, Feet b r a' c' j → ¬ Feet b2 r2 a7 c7 j from fun j q1 q2 => HD6.out j q1 (feet_next m7 n7 q2 (D16.out.feet q1).2))
        have D17 := Lib.hid (D16.out.kp hk7 (fun j q1 q2 => HD6.out j q1 q2))
        have HK7 := Lib.hid (HK6.out.trans (hk7.mono (fun j _ h => (D26.out.feet h).1)))
        have D27 := Lib.hid d7
        clear e0 e1 e2 e3 e4 d7 hk7 m7 n7 D16 D26 HK6 HD6 HI HN
        go_wp2_with fail
        go_roundw
        case rel => first | exact ⟨k + 1, a', c', a7, c7, by go_num, by omega, D17.out, D27.out, HD7.out, HK7.out⟩ | ((repeat apply Exists.intro); exact ⟨⟨k + 1, a', c', a7, c7, by go_num, by omega, D17.out, D27.out, HD7.out, HK7.out⟩, rfl⟩)
        case measure => simp [intOf]; omega
      · go_wp2_with fail
        go_roundw
        case rel => first | exact ⟨k + 1, a', c', a2, c2, by go_num, by omega, D16.out, D26.out, HD6.out, HK6.out⟩ | ((repeat apply Exists.intro); exact ⟨⟨k + 1, a', c', a2, c2, by go_num, by omega, D16.out, D26.out, HD6.out, HK6.out⟩, rfl⟩)
        case measure => simp [intOf]; omega
    · have D16 := D1
      have D26 := D2
      have HK6 := HK
      have HD6 := HD
      obtain ⟨a', ha'⟩ : ∃ a', a' = a := ⟨_, rfl⟩
      obtain ⟨c', hc'⟩ : ∃ c', c' = c := ⟨_, rfl⟩
      rw [← ha', ← hc'] at D16 HD6
      clear ha' hc' D1 D2 HK HD
      by_cases p2 : k < ly
      · obtain ⟨bu, ou, hlbu, rfl, ⟨e0, e1, e2, e3, e4⟩, hI⟩ := HU.out.kp (HB.out ▸ HK6.out) p2
        have hn := HNY.out k p2
        have hky : (k : Int) < (ly : Int) := by omega
        generalize U k = oe at e0 e1 e2 e3 e4 hI hn
        obtain ⟨ko, A, C, D, xo, zo, co⟩ := oe
        have HI := Lib.hid hI
        have HN := Lib.hid hn
        clear hI hn
        go_wp2_with fail
        refine (step_duo D26.out HB.out HK6.out ko A C D xo zo co HI.out HN.out).mono ?_
        rintro e w7 ⟨rfl, a7, c7, d7, hk7, m7, n7⟩
        have HD7 := Lib.hid (show ∀ j, Feet b r a' c' j → ¬ Feet b2 r2 a7 c7 j from fun j q1 q2 => HD6.out j q1 (feet_next m7 n7 q2 (D16.out.feet q1).2))
        have D17 := Lib.hid (D16.out.kp hk7 (fun j q1 q2 => HD6.out j q1 q2))
        have HK7 := Lib.hid (HK6.out.trans (hk7.mono (fun j _ h => (D26.out.feet h).1)))
        have D27 := Lib.hid d7
        clear e0 e1 e2 e3 e4 d7 hk7 m7 n7 D16 D26 HK6 HD6 HI HN
        go_wp2_with fail
        go_roundw
        case rel => first | exact ⟨k + 1, a', c', a7, c7, by go_num, by omega, D17.out, D27.out, HD7.out, HK7.out⟩ | ((repeat apply Exists.intro); exact ⟨⟨k + 1, a', c', a7, c7, by go_num, by omega, D17.out, D27.out, HD7.out, HK7.out⟩, rfl⟩)
        case measure => simp [intOf]; omega
      · go_wp2_with fail
        go_ret
        exact ⟨rfl, (HB.out ▸ HK6.out).belowW⟩

set_option maxRecDepth 100000 in
set_option maxHeartbeats 4000000 in
theorem walk_no (me : Int) (x : Option Addr) (lx cx : Nat) (O : Nat → OpE) (y : Option Addr) (ly cy : Nat) (U : Nat → OpE) (W : World) (hO : Ops W x lx O) (mx : lx ≤ maxLen) (hU : Ops W y ly U) (my : ly ≤ maxLen) (ny : ∀ k, k < ly → (U k).zs.length ≤ 17592186043904) (hm : me < 0 ∨ 16 ≤ me) :
    Calls Try.prog 5 #[.int .i64 me, .slice x lx cx, .slice y ly cy] W fun e w' => e = .returned (.bool true) ∧ Below W.heap.size W w' := by
  unfold maxLen at mx my
  have HO := Lib.hid hO
  have HU := Lib.hid hU
  have HNY := Lib.hid ny
  have hmb : (decide (me < 0) || decide (16 ≤ me)) = true := by simpa using hm
  have HMB := Lib.hid hmb
  have HM := Lib.hid hm
  clear hO hU ny hmb hm
  go_enter Try.func5, Try.ntmps5
  go_wp2_with fail
  refine (new_bad W me HM.out).mono ?_
  rintro e w1 ⟨rfl, rfl⟩
  go_wp2_with fail
  refine (new_good w1 2 (by decide) (by decide)).mono ?_
  rintro e w2 ⟨b2, rfl, hb2, hk2⟩
  go_wp2_with fail
  refine (rnew_bad w2 me HMB.out).mono ?_
  rintro e w3 ⟨rfl, rfl⟩
  go_wp2_with fail
  refine (rnew_good w3 2 (by decide) (by decide)).mono ?_
  rintro e w4 ⟨r2, rfl, hr2, hk4⟩
  have z2 := lt_of_block hb2.blk
  have z4 := lt_of_block hr2.blk
  have g2 := hb2.ge
  have g4 := hr2.ge
  have s2 := hk2.size
  have s4 := hk4.size
  obtain ⟨B, hB⟩ : ∃ B, B = w1.heap.size := ⟨_, rfl⟩
  have d2 : Duo w4 B b2 r2 2 none none := duo_new (hb2.no hk4) hr2 (by omega) (by omega) (by omega)
  have hK4 : Kp (fun j => B ≤ j) w1 w4 := hk2.no.trans hk4.no
  have HB := Lib.hid hB
  have D2 := Lib.hid d2
  have HK := Lib.hid hK4
  clear z2 z4 g2 g4 s2 s4 hb2 hr2 hk2 hk4 hB d2 hK4
  go_wp2_with (first | (go_at_call 9; refine (num_any _ _).mono ?_; rintro e w' ⟨rfl, rfl⟩) | (go_at_call 10; refine (knows_any _).mono ?_; rintro e w5 ⟨rfl, hk5⟩))
  go_loopw [13] (fun q wr => ∃ (k : Nat) (a2 c2 : Option Addr), q = .int .i64 k ∧ (k ≤ lx ∨ k ≤ ly) ∧ Duo wr B b2 r2 2 a2 c2 ∧ Kp (fun j => B ≤ j) w1 wr) (fun q _ => (max lx ly : Nat) - (intOf q).toNat)
  case atStart => exact ⟨0, none, none, rfl, by omega, D2.out.kp hk5 (fun _ _ h => h), HK.out.trans hk5.no⟩
  case round =>
    clear D2 HK hk5
    obtain ⟨k, a2, c2, rfl, hk, d2, hK⟩ := hrel
    have HK := Lib.hid hK
    have D2 := Lib.hid d2
    clear hK d2
    by_cases p2 : k < ly
    · obtain ⟨bu, ou, hlbu, rfl, ⟨e0, e1, e2, e3, e4⟩, hI⟩ := HU.out.kp (HB.out ▸ HK.out) p2
      have hn := HNY.out k p2
      have hky : (k : Int) < (ly : Int) := by omega
      generalize U k = oe at e0 e1 e2 e3 e4 hI hn
      obtain ⟨ko, A, C, D, xo, zo, co⟩ := oe
      have HI := Lib.hid hI
      have HN := Lib.hid hn
      clear hI hn
      by_cases p1 : k < lx
      · go_wp2_with fail
        refine (step_duo D2.out HB.out HK.out ko A C D xo zo co HI.out HN.out).mono ?_
        rintro e w7 ⟨rfl, a7, c7, d7, hk7, m7, n7⟩
        have HK7 := Lib.hid (HK.out.trans (hk7.mono (fun j _ h => (D2.out.feet h).1)))
        have D27 := Lib.hid d7
        clear e0 e1 e2 e3 e4 d7 hk7 m7 n7 D2 HK HI HN
        go_wp2_with fail
        go_roundw
        case rel => first | exact ⟨k + 1, a7, c7, by go_num, by omega, D27.out, HK7.out⟩ | ((repeat apply Exists.intro); exact ⟨⟨k + 1, a7, c7, by go_num, by omega, D27.out, HK7.out⟩, rfl⟩)
        case measure => simp [intOf]; omega
      · go_wp2_with fail
        refine (step_duo D2.out HB.out HK.out ko A C D xo zo co HI.out HN.out).mono ?_
        rintro e w7 ⟨rfl, a7, c7, d7, hk7, m7, n7⟩
        have HK7 := Lib.hid (HK.out.trans (hk7.mono (fun j _ h => (D2.out.feet h).1)))
        have D27 := Lib.hid d7
        clear e0 e1 e2 e3 e4 d7 hk7 m7 n7 D2 HK HI HN
        go_wp2_with fail
        go_roundw
        case rel => first | exact ⟨k + 1, a7, c7, by go_num, by omega, D27.out, HK7.out⟩ | ((repeat apply Exists.intro); exact ⟨⟨k + 1, a7, c7, by go_num, by omega, D27.out, HK7.out⟩, rfl⟩)
        case measure => simp [intOf]; omega
    · by_cases p1 : k < lx
      · go_wp2_with fail
        go_roundw
        case rel => first | exact ⟨k + 1, a2, c2, by go_num, by omega, D2.out, HK.out⟩ | ((repeat apply Exists.intro); exact ⟨⟨k + 1, a2, c2, by go_num, by omega, D2.out, HK.out⟩, rfl⟩)
        case measure => simp [intOf]; omega
      · go_wp2_with fail
        go_ret
        exact ⟨rfl, (HB.out ▸ HK.out).belowW⟩

theorem walk (me : Int) (x : Option Addr) (lx cx : Nat) (O : Nat → OpE) (y : Option Addr) (ly cy : Nat) (U : Nat → OpE) (W : World) (hO : Ops W x lx O) (mx : lx ≤ maxLen) (nx : ∀ k, k < lx → (O k).zs.length ≤ 17592186043904) (hU : Ops W y ly U) (my : ly ≤ maxLen) (ny : ∀ k, k < ly → (U k).zs.length ≤ 17592186043904) :
    Calls Try.prog 5 #[.int .i64 me, .slice x lx cx, .slice y ly cy] W fun e w' => e = .returned (.bool true) ∧ Below W.heap.size W w' := by
  by_cases h : 0 ≤ me ∧ me < 16
  · exact walk_yes me x lx cx O y ly cy U W hO mx nx hU my ny h.1 h.2
  · exact walk_no me x lx cx O y ly cy U W hO mx hU my ny (by omega)

set_option maxRecDepth 100000 in
theorem lifted (os : Os) (started : os.Started) (H : Type) (enc : TypeId × Value → H) :
    ReturnsInHanded {} Try.checked os 5 .any (Rows.readsPlaysSpec.pre6 enc Try.prog Try.f5 Rows.readsPlaysRow.domain false) (Rows.readsPlaysSpec.post enc Try.prog Try.f5 false true false false) := by
  refine returnsInHanded_of_change_sized (C := Try.checked) own started (by kernel_rfl) Try.func5
    (ChangeSpec.witness6 (enc := enc) (C := Try.checked) false ⟨#[], #[.int .i64 0, .slice none 0 0, .slice none 0 0], []⟩ 8 (by kernel_rfl) (by kernel_rfl) (by kernel_rfl) (by kernel_rfl)) ?_
  intro W base args ds gs before hval0 hW _ hsz _
  have hval : ∀ (j : Nat) t v, Try.f5.params[j]? = some t → args[j]? = some v → Value.okWide Try.prog W .any base t v := hval0
  have hW' := hW
  obtain ⟨p, q, hA0, hV, rfl, hfz, hnd⟩ := hW
  have hA : DataW.TrodAll enc Try.prog W 0 (fun _ => true) true Try.f5.params.toList args.toList ds p := hA0
  rw [Try.params5] at hA hval
  obtain ⟨v0, vs0, d0, ds0, p0, q0, hargs, rfl, rfl, h0, r0⟩ := trodAll_cons hA
  obtain ⟨v1, vs1, d1, ds1, p1, q1, rfl, rfl, rfl, h1, r1⟩ := trodAll_cons r0
  obtain ⟨v2, vs2, d2, ds2, p2, q2, rfl, rfl, rfl, h2, r2⟩ := trodAll_cons r1
  obtain ⟨rfl, rfl, rfl⟩ := trodAll_nil r2
  obtain rfl : args = #[v0, v1, v2] := by cases args; simp_all
  obtain ⟨rfl, rfl⟩ := trodVars_none hV
  obtain ⟨a0, rfl, rfl, _, w0⟩ := open_int Try.underlying3 (hval 0 3 v0 rfl rfl) h0
  have o1 := hval 1 22 v1 rfl rfl
  have o2 := hval 2 22 v2 rfl rfl
  have hall := fun x hx => of_decide_eq_true (List.all_eq_true.1 hsz x hx)
  obtain ⟨x, lx, cx, O, rfl, hO, mx, nx⟩ := open_ops_w o1 h1 (fun z hz => hall z (DataW.weights_mem_each (j := 1) (t := 22) rfl rfl z hz))
  obtain ⟨y, ly, cy, U, rfl, hU, my, ny⟩ := open_ops_w o2 h2 (fun z hz => hall z (DataW.weights_mem_each (j := 2) (t := 22) rfl rfl z hz))
  refine (walk a0 x lx cx O y ly cy U W hO mx nx hU my ny).mono fun e W' ⟨he, hg⟩ => ?_
  subst he
  exact ⟨_, rfl, law_post laidOut (of_decide_eq_true (by kernel_rfl)) rfl Try.underlying4 rfl ⟨rfl, rfl, rfl⟩ hW' hg⟩

theorem over : Rows.readsPlaysRow.holds Try.pinned (OpenSpec.ofChange Rows.readsPlaysSpec) :=
  OpenClaim.holds_of_wide 5 Try.f5 rfl rfl rfl rfl rfl rfl rfl ⟨rfl, rfl, rfl, rfl, rfl⟩ rfl rfl rfl rfl rfl (by kernel_rfl) Try.func5 (by kernel_rfl)
    (of_decide_eq_true (by kernel_rfl)) (by unfold Func.isWrapper; first | (rw [if_pos (by decide +kernel)]; kernel_rfl) | (rw [if_neg (by decide +kernel)]; exact ⟨rfl, rfl⟩))
    (fun os started H enc _ => lifted os started H enc)

theorem proved : Rows.ReadsPlaysSaid :=
  over
#print axioms proved
end Go.Proofs.Ytdkgbjbfmempdaa.readsPlays
