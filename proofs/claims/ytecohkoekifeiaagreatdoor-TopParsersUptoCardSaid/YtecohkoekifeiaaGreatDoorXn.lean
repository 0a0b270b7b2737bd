/-
  The parsers joined with what writes again.
-/
import Derived.Test.YtecohkoekifeiaaGreatDoorXj
import Derived.Test.YtecohkoekifeiaaGreatDoorXg
set_option linter.all false
namespace Go.Proofs.YtecohkoekifeiaaGreatDoor
open Go.RowKit
set_option linter.unusedVariables false
set_option linter.unusedSimpArgs false

/-- What is put is kept. -/
def PutKept (a : Option Addr) (b : List Int) (c : Nat) (fn : FuncId) (X : Value) (er : Int) (w : World) : Prop :=
  ∀ u, Kp (fun _ => False) w u → Calls Tryz.prog fn #[X] u fun e u' => ∃ (x : Option Addr) (n co : Nat) (f : Int), e = .returned (.tuple #[.slice x n co, .int .i64 f]) ∧ Kp (fun _ => False) u u' ∧
    ∀ u2, Kp (fun _ => False) u' u2 → Calls Tryz.prog 6 #[.slice a b.length c, .int .i64 er, .slice x n co, .int .i64 f] u2 fun r w' => r = .returned (.bool true) ∧ w' = u2
theorem srv_seven {xs bs : List Int} (h : srv xs = some bs) : xs.length ≤ 7 := by
  unfold srv at h
  split at h
  · cases h
  · omega
section
variable {w : World} {a : Option Addr} {b : List Int}
theorem kept_bad (c n co : Nat) (x : Option Addr) (er f : Int) (he : er ≠ 0) (u2 : World) : Calls Tryz.prog 6 #[.slice a b.length c, .int .i64 er, .slice x n co, .int .i64 f] u2 fun r w' => r = .returned (.bool true) ∧ w' = u2 := by
  have := kept_any (w := u2) (a := a) (b := x) (xs := b) (ys := List.replicate n 0) er f (.inl he) c co
  rwa [List.length_replicate] at this
theorem kept_good {u u2 : World} (h : Row w a (bytes b)) (hk : Kp (fun _ => False) w u2) {x : Option Addr} (hx : Row u x (bytes b)) (hu : Kp (fun _ => False) u u2) (c co : Nat) : Calls Tryz.prog 6 #[.slice a b.length c, .int .i64 0, .slice x b.length co, .int .i64 0] u2 fun r w' => r = .returned (.bool true) ∧ w' = u2 :=
  kept_any 0 0 (.inr ⟨rfl, rfl, h.no hk, hx.no hu⟩) c co

theorem get_E (h : Row w a (bytes b)) (hB : Byte b) (hm : b.length ≤ 16777216) (c : Nat) : Calls Tryz.prog 4 #[.slice a b.length c] w fun e w' => Kp (fun _ => False) w w' ∧
    ∃ (x0 x1 x2 : Int) (o : Option Addr) (n co : Nat) (er : Int), e = .returned (.tuple #[.agg #[.int .i64 x0, .int .i64 x1, .int .i64 x2, .slice o n co], .int .i64 er]) ∧ PutKept a b c 5 (.agg #[.int .i64 x0, .int .i64 x1, .int .i64 x2, .slice o n co]) er w' := by
  refine (getEntry_any h hB (by omega) c).mono ?_
  rintro e w' ⟨hk, h1⟩
  rcases h1 with ⟨hno, rfl⟩ | ⟨o, co, hf, rfl, ho⟩
  · refine ⟨hk, 0, 0, 0, none, 0, 0, 21, rfl, fun u hu => (putEntry_bad (x := ⟨0, 0, 0, []⟩) (Row.nil u none) (fun _ h => by cases h) (by simp) 0 rfl).mono ?_⟩
    rintro e u' ⟨rfl, hk'⟩
    exact ⟨none, 0, 0, 1, rfl, hk', fun u2 _ => kept_bad c 0 0 none 21 1 (by decide) u2⟩
  · obtain ⟨e1, e2, e3, e4⟩ := entry_fit hB hf
    refine ⟨hk, _, _, _, o, _, co, 0, rfl, fun u hu => (putEntry_good (x := (getE b).1) (ho.row.no hu) e3 e4 co e2).mono ?_⟩
    rintro e u' ⟨o2, co2, rfl, ho2, hk2⟩
    rw [e1] at ho2 ⊢
    exact ⟨o2, _, co2, 0, rfl, hk2, fun u2 hu2 => kept_good h (((hk.trans hu).trans hk2).trans hu2) ho2.row hu2 c co2⟩

theorem get_S (h : Row w a (bytes b)) (hB : Byte b) (hm : b.length ≤ 16777216) (c : Nat) : Calls Tryz.prog 7 #[.slice a b.length c] w fun e w' => Kp (fun _ => False) w w' ∧
    ∃ (o : Option Addr) (n co : Nat) (er : Int), e = .returned (.tuple #[.slice o n co, .int .i64 er]) ∧ PutKept a b c 8 (.slice o n co) er w' := by
  refine (getServers_any h hB (by omega) c).mono ?_
  rintro e w' ⟨hk, h1⟩
  rcases h1 with ⟨hno, rfl⟩ | ⟨xs, o, co, hf, rfl, ho⟩
  · refine ⟨hk, none, 0, 0, 21, rfl, fun u hu => (putServers_any (xs := []) (Row.nil u none) 0).mono ?_⟩
    rintro e u' ⟨hk', h2⟩
    rcases h2 with ⟨_, rfl⟩ | ⟨bs, o, co, hs, rfl, _⟩
    · exact ⟨none, 0, 0, 1, rfl, hk', fun u2 _ => kept_bad c 0 0 none 21 1 (by decide) u2⟩
    · exact ⟨o, _, co, 0, rfl, hk', fun u2 _ => kept_bad c _ co o 21 0 (by decide) u2⟩
  · have hs := getS_back hf
    refine ⟨hk, o, _, co, 0, rfl, fun u hu => (putServers_any (ho.row.no hu) co).mono ?_⟩
    rintro e u' ⟨hk', h2⟩
    rcases h2 with ⟨hn, _⟩ | ⟨bs, o2, co2, hs2, rfl, ho2⟩
    · rw [hs] at hn
      cases hn
    · rw [hs] at hs2
      cases hs2
      exact ⟨o2, _, co2, 0, rfl, hk', fun u2 hu2 => kept_good h (((hk.trans hu).trans hk').trans hu2) ho2.row hu2 c co2⟩

theorem get_M (h : Row w a (bytes b)) (hB : Byte b) (hm : b.length ≤ 16777216) (c : Nat) : Calls Tryz.prog 9 #[.slice a b.length c] w fun e w' => Kp (fun _ => False) w w' ∧
    ∃ (x0 x1 x2 x3 x4 x5 x6 x7 : Int) (y : Bool) (o1 : Option Addr) (n1 c1 : Nat) (o2 : Option Addr) (n2 c2 : Nat) (o3 : Option Addr) (n3 c3 : Nat) (er : Int),
      e = .returned (.tuple #[.agg #[.int .i64 x0, .int .i64 x1, .int .i64 x2, .int .i64 x3, .int .i64 x4, .int .i64 x5, .int .i64 x6, .int .i64 x7, .bool y, .slice o1 n1 c1, .slice o2 n2 c2, .slice o3 n3 c3], .int .i64 er]) ∧
      PutKept a b c 10 (.agg #[.int .i64 x0, .int .i64 x1, .int .i64 x2, .int .i64 x3, .int .i64 x4, .int .i64 x5, .int .i64 x6, .int .i64 x7, .bool y, .slice o1 n1 c1, .slice o2 n2 c2, .slice o3 n3 c3]) er w' := by
  refine (mGet_any h hB hm c).mono ?_
  rintro e w' ⟨hk, h1⟩
  rcases h1 with rfl | ⟨k, f, t, m, x, b', c', d, yes, oe, os, od, ce, cs, cd, es, xs, bs, dd, hb, hok, hes, hxs, hdd, hks, hke, rfl⟩
  · refine ⟨hk, 0, 0, 0, 0, 0, 0, 0, 0, false, none, 0, 0, none, 0, 0, none, 0, 0, 21, rfl, fun u hu => (mPut_zero u).mono ?_⟩
    rintro e u' ⟨rfl, hk'⟩
    exact ⟨none, 0, 0, 1, rfl, hk', fun u2 _ => kept_bad c 0 0 none 21 1 (by decide) u2⟩
  · have hd3 : dd.length ≤ 65536 := hok.2.2.1.2.2
    have hx3 : xs.length ≤ 7 := by
      rcases hok.2.2.2 with h5 | h5
      · exact srv_seven (hks (by omega))
      · omega
    refine ⟨hk, k, f, t, m, x, b', c', d, yes, oe, _, ce, os, _, cs, od, _, cd, 0, rfl, fun u hu => ?_⟩
    refine (mPut_good (w := u) k f t m x b' c' d yes oe os od es.length ce xs.length cs dd.length cd (by have := hok.2.2.1.1; omega) (by omega) (by omega) hok es xs bs dd ⟨hes.row.no hu, fun r hr => (hes.each r hr).no hu⟩ rfl (hxs.no hu) rfl (hdd.no hu) rfl hks hke).mono ?_
    rw [← hb]
    rintro e u' ⟨o2, co2, rfl, ho2, hk2⟩
    exact ⟨o2, _, co2, 0, rfl, hk2, fun u2 hu2 => kept_good h (((hk.trans hu).trans hk2).trans hu2) ho2 hu2 c co2⟩

theorem get_V (h : Row w a (bytes b)) (hB : Byte b) (hm : b.length ≤ 16777216) (c : Nat) (hcap : b.length ≤ c) : Calls Tryz.prog 11 #[.slice a b.length c] w fun e w' => Kp (fun _ => False) w w' ∧
    ∃ (x0 x1 er : Int), e = .returned (.tuple #[.agg #[.int .i64 x0, .int .i64 x1], .int .i64 er]) ∧ PutKept a b c 12 (.agg #[.int .i64 x0, .int .i64 x1]) er w' := by
  refine (stGet_any h hB hm c hcap).mono ?_
  rintro e w' ⟨hk, h1⟩
  rcases h1 with rfl | ⟨t, n, v, hb, ht, hn, hv, rfl⟩
  · refine ⟨hk, 0, 0, 21, rfl, fun u hu => (stPut_good u 0 1 (by decide) (by decide) 0 (by decide)).mono ?_⟩
    rintro e u' ⟨o, co, rfl, _, hk'⟩
    exact ⟨o, _, co, 0, rfl, hk', fun u2 _ => kept_bad c _ co o 21 0 (by decide) u2⟩
  · refine ⟨hk, t, v, 0, rfl, fun u hu => (stPut_good u t n ht hn v hv).mono ?_⟩
    rw [← hb]
    rintro e u' ⟨o2, co2, rfl, ho2, hk2⟩
    exact ⟨o2, _, co2, 0, rfl, hk2, fun u2 hu2 => kept_good h (((hk.trans hu).trans hk2).trans hu2) ho2.row hu2 c co2⟩

theorem get_N (h : Row w a (bytes b)) (hB : Byte b) (hm : b.length ≤ 16777216) (c : Nat) (hcap : b.length ≤ c) : Calls Tryz.prog 13 #[.slice a b.length c] w fun e w' => Kp (fun _ => False) w w' ∧
    ∃ (x0 x1 : Int) (o1 : Option Addr) (n1 c1 : Nat) (o2 : Option Addr) (n2 c2 : Nat) (er : Int), e = .returned (.tuple #[.agg #[.int .i64 x0, .int .i64 x1, .slice o1 n1 c1, .slice o2 n2 c2], .int .i64 er]) ∧ PutKept a b c 14 (.agg #[.int .i64 x0, .int .i64 x1, .slice o1 n1 c1, .slice o2 n2 c2]) er w' := by
  refine (snGet_any h hB hm c hcap).mono ?_
  rintro e w' ⟨hk, h1⟩
  rcases h1 with rfl | ⟨i, t, xs, bs, d, o, co, o', co', hb, hs, hi1, hi2, ht1, ht2, hd, hBd, hr1, hr2, rfl⟩
  · refine ⟨hk, 0, 0, none, 0, 0, none, 0, 0, 21, rfl, fun u hu => (snPut_bad (i := 0) (t := 0) (n := 0) (xs := []) (o := none) (o' := none) 0 0 (Row.nil u none) (.inl rfl)).mono ?_⟩
    rintro e u' ⟨rfl, hk'⟩
    exact ⟨none, 0, 0, 1, rfl, hk', fun u2 _ => kept_bad c 0 0 none 21 1 (by decide) u2⟩
  · refine ⟨hk, i, t, o, _, co, o', _, co', 0, rfl, fun u hu => (snPut_good co co' hs hi1 hi2 ht1 ht2 hd (hr1.no hu) (hr2.no hu) hBd).mono ?_⟩
    rw [← hb]
    rintro e u' ⟨o2, co2, rfl, ho2, hk2⟩
    exact ⟨o2, _, co2, 0, rfl, hk2, fun u2 hu2 => kept_good h (((hk.trans hu).trans hk2).trans hu2) ho2.row hu2 c co2⟩
end
end Go.Proofs.YtecohkoekifeiaaGreatDoor
