/-
  The calls of a book as the laws make them: arguments brought into range by remainders; and what rises. No condition.
-/
import Derived.Test.YtdkgbjbfmempdaaUp
import Derived.Test.YtdkgbjbfmempdaaKn
namespace Go.Proofs.Ytdkgbjbfmempdaa
open Go.ChangeShapes Go.WideShapes Go.ChangeAt Go.RowKit Go.Deep
set_option linter.unusedVariables false

theorem Book.kpB {w w' : World} {B b : Nat} {me : Int} {l : List Rd} {h : Nat → Int} {a : Option Addr} {cap : Nat} (hb : Book w B b me l h a cap) (k : Kp (Foot b a) w w') : Kp (fun j => B ≤ j) w w' := k.mono (fun j _ h => (hb.foot h).1)
theorem Moved.foot {w : World} {b X : Nat} {a a' : Option Addr} (m : Moved w a a') (h : ¬ Foot b a X) (hX : X < w.heap.size) : ¬ Foot b a' X := by
  rintro (e | e)
  · exact h (Or.inl e)
  · rcases m with m | m
    · exact h (Or.inr (m ▸ e))
    · have := m X e.symm
      omega
theorem Answers.no {w w' : World} {a : Option Addr} {l : List (Int × Int)} (h : Answers w a l) (k : Kp (fun _ => False) w w') : Answers w' a l := h.kp k (fun _ _ h => h)
theorem Book.holds {w w' : World} {B b : Nat} {me : Int} {l : List Rd} {h : Nat → Int} {a : Option Addr} {cap : Nat} (hb : Book w B b me l h a cap) (k : Kp (fun _ => False) w w') : Book w' B b me l h a cap := hb.no k
theorem pairs_up {T : List (Int × Int)} (h : (T.map (·.1)).Pairwise (· < ·)) (i : Nat) (hi : i + 1 < T.length) : (T.getD i default).1 < (T.getD (i + 1) default).1 := by
  rw [List.pairwise_iff_getElem] at h
  have := h i (i + 1) (by simp; omega) (by simpa using hi) (by omega)
  simpa [List.getD, List.getElem?_eq_getElem hi, List.getElem?_eq_getElem (show i < T.length by omega)] using this
theorem new_md (w : World) (me m : Int) (h1 : 1 ≤ m) (h2 : m ≤ 16) : Calls Try.prog 8 #[.int .i64 ((me.tmod m + m).tmod m)] w fun e w' => ∃ b, e = .returned (.tuple #[.pointer (some ⟨b, 0, none⟩), .int .i64 0]) ∧ Book w' w.heap.size b (md me m) [] mute none 0 ∧ Kp (fun _ => False) w w' :=
  new_good w (md me m) (md_lo me m h1) (Int.lt_of_lt_of_le (md_hi me m h1) h2)

theorem ask_up {w : World} {B b : Nat} {me : Int} {l : List Rd} {h : Nat → Int} {a : Option Addr} {cap : Nat} (hb : Book w B b me l h a cap) {i : Nat} (hu : Up l i) (hi : i < 90) (x z m m' : Int) (h1 : 1 ≤ m) (h2 : 1 ≤ m') :
    Calls Try.prog 11 #[.pointer (some ⟨b, 0, none⟩), .int .i64 i, .int .i64 ((x.tmod m + m).tmod m), .int .i64 ((z.tmod m' + m').tmod m')] w fun e w' => e = .returned (.int .i64 0) ∧ ∃ a' cap', Book w' B b me (l ++ [⟨i, md x m, md z m'⟩]) h a' cap' ∧ Kp (Foot b a) w w' ∧ Moved w a a' := by
  have ha := ask_any hb (by have := hu.le; omega) i (md x m) (md z m')
  rw [(hu.ask hi _ _ (md_lo x m h1) (md_lo z m' h2)).1] at ha
  refine Calls.mono ha ?_
  rintro e w' ⟨a', cap', he, hb', hk, hm⟩
  exact ⟨he, a', cap', hb', hk, hm⟩

theorem heard_md {w : World} {B b : Nat} {me : Int} {l : List Rd} {h : Nat → Int} {a : Option Addr} {cap : Nat} (hb : Book w B b me l h a cap) (x z m : Int) (h1 : 1 ≤ m) :
    Calls Try.prog 12 #[.pointer (some ⟨b, 0, none⟩), .int .i64 ((x.tmod 16 + 16).tmod 16), .int .i64 ((z.tmod m + m).tmod m)] w fun e w' => e = .returned (.int .i64 0) ∧ Book w' B b me l (hear h (md x 16).toNat (md z m)) a cap ∧ Kp (Foot b a) w w' := by
  have e1 := Int.toNat_of_nonneg (md_lo x 16 (by omega))
  have hh := heard_good hb (md x 16).toNat (by have := md_hi x 16 (by omega); omega) (md z m) (md_lo z m h1)
  rw [e1] at hh
  refine Calls.mono hh ?_
  rintro e w' ⟨he, hb', hk⟩
  exact ⟨he, hb', hk.mono (fun j _ h => Or.inl h)⟩

/-- Ready, by a list that lies below the book. -/
theorem ready_below {w : World} {B b : Nat} {me : Int} {l : List Rd} {h : Nat → Int} {a : Option Addr} {cap : Nat} (hb : Book w B b me l h a cap) (hl : l.length ≤ 1000) {W : World} (hB : W.heap.size = B) {y : Option Addr} {zs : List Int} (hY : Ints W y zs) (hk : Kp (fun j => B ≤ j) W w) (my : zs.length ≤ 17592186043904) (cy : Nat) :
    Calls Try.prog 13 #[.pointer (some ⟨b, 0, none⟩), .slice y zs.length cy] w fun e w' => ∃ o co, e = .returned (.slice o (toldAll (fun r => won zs (yes me h r.rd)) l).length co) ∧ Answers w' o (toldAll (fun r => won zs (yes me h r.rd)) l) ∧ (∀ g, blockOf o = some g → w.heap.size ≤ g) ∧
      Book w' B b me (keep (fun r => won zs (yes me h r.rd)) l) h a cap ∧ Kp (fun j => B ≤ j) w w' := by
  have hI : Ints w y zs := by
    intro i hi
    obtain ⟨g, off, hy, hc⟩ := hY i hi
    have hg := World.block_lt_of_cell? W _ hc
    exact ⟨g, off, hy, (hk.cell (p := ⟨g, off + i, none⟩) hg (by show ¬ B ≤ g; rw [← hB]; exact Nat.not_le.2 hg)).trans hc⟩
  refine Calls.mono (ready_any hb hl hI (fun hz g hg e => ?_) (by omega) cy) ?_
  · have h0 : 0 < zs.length := by cases zs with | nil => exact absurd rfl hz | cons _ _ => simp
    obtain ⟨g', off, hy, hc⟩ := hY 0 h0
    have hlt : g' < W.heap.size := World.block_lt_of_cell? W _ hc
    rw [hy] at hg
    cases hg
    have : B ≤ g' := (hb.own.from e).1
    omega
  · rintro e w' ⟨o, co, he, ho, hb', hk'⟩
    exact ⟨o, co, he, ho.answers, fun g hg => (ho.from hg).1, hb', hk'.mono (fun j _ h => (hb.foot h).1)⟩
end Go.Proofs.Ytdkgbjbfmempdaa
