/-
  Two pairs of clients, by turns. Where the counts are few.
-/
import Derived.Test.YtjhefbkigmamfaaSt
namespace Go.Proofs.Ytjhefbkigmamfaa
open Go.ChangeShapes Go.WideShapes Go.ChangeAt Go.RowKit
set_option linter.unusedVariables false

theorem Client.base {w : World} {B B' : Nat} {R : Nat → Prop} {b : Nat} {v : CV} (k : Client w B R b v) (hB : B' ≤ B) : Client w B' R b v :=
  ⟨k.blk, by have := k.ge; omega, k.srv, k.srvR, k.one, k.seven, k.rs, k.at_, k.id1, k.id2, k.pat1, k.pat2, k.ord, k.ordR, k.ordL, k.ans, k.ansR, k.rec_, k.own.base hB, k.dat, k.dis, fun j hj => ⟨by have := (k.lt j hj).1; omega, (k.lt j hj).2⟩⟩
theorem RC.base0 {w : World} {B B' : Nat} {R : Nat → Prop} {b : Nat} {sa : Option Addr} {zs : List Int} {sc : Nat} {id pat : Int} (k : RC w B R b (cv0 sa zs sc id pat)) (hB : B' ≤ B) : RC w B' R b (cv0 sa zs sc id pat) :=
  ⟨k.blk, by have := k.ge; omega, k.srv, k.srvR, k.one, k.seven, k.at_, k.id1, k.id2, k.pat1, k.pat2, k.ord, k.ordR, k.ordL, Low.nil _ _ _, (fun r hr => by cases hr), k.own.base hB, k.dat, k.dis, fun j hj => ⟨by have := (k.lt j hj).1; omega, (k.lt j hj).2⟩⟩
theorem same0 (sa sa' : Option Addr) (zs : List Int) (sc sc' : Nat) (id pat : Int) : SameV (cv0 sa zs sc id pat) (cv0 sa' zs sc' id pat) :=
  ⟨rfl, rfl, rfl, rfl, rfl, rfl, rfl, rfl, rfl, fun e => absurd rfl e, fun e => absurd (show (0 : Int) = 2 from e) (by decide), rfl, fun k p q hp => by cases hp⟩
/-- New ones: both made, and known in w. -/
theorem pair0 {w : World} {B : Nat} {R R' : Nat → Prop} {b rb : Nat} {sa sa' : Option Addr} {zs : List Int} {sc sc' : Nat} {id pat : Int} {N : Nat → Prop} (c : Client w B R b (cv0 sa zs sc id pat)) (r : RC w B R' rb (cv0 sa' zs sc' id pat)) (hd : ∀ j, All R b (cv0 sa zs sc id pat) j → ¬ All R' rb (cv0 sa' zs sc' id pat) j)
    (hn : ∀ j, N j → ¬ All R b (cv0 sa zs sc id pat) j ∧ ¬ All R' rb (cv0 sa' zs sc' id pat) j) : PW w B N b rb 0 :=
  ⟨R, R', _, _, c, r, same0 _ _ _ _ _ _ _, hd, hn, Int.le_refl _, (by have := c.pat1; show (0 : Int) ≤ pat; have e : (cv0 sa zs sc id pat).pat = pat := rfl; omega), Int.le_refl _, Int.le_refl _, Int.le_refl _, Int.le_refl _, Nat.le_refl _, Nat.zero_le _⟩
/-- Two pairs of no common block: those of M are the first one's. -/
def TP (w : World) (B b1 r1 b2 r2 T1 T2 : Nat) : Prop := ∃ M : Nat → Prop, PW w B (fun j => B ≤ j ∧ j < w.heap.size ∧ ¬ M j) b1 r1 T1 ∧ PW w B (fun j => B ≤ j ∧ j < w.heap.size ∧ M j) b2 r2 T2
theorem TP.swap {w : World} {B b1 r1 b2 r2 T1 T2 : Nat} (h : TP w B b1 r1 b2 r2 T1 T2) : TP w B b2 r2 b1 r1 T2 T1 := by
  obtain ⟨M, h1, h2⟩ := h
  exact ⟨fun j => ¬ M j, h2.other (fun j h => .inl ⟨h.1, h.2.1, Classical.not_not.1 h.2.2⟩), h1.other (fun j h => .inl h)⟩
theorem TP.no {w w' : World} {B b1 r1 b2 r2 T1 T2 : Nat} (h : TP w B b1 r1 b2 r2 T1 T2) (hk : Kp (fun _ => False) w w') : TP w' B b1 r1 b2 r2 T1 T2 := by
  obtain ⟨M, h1, h2⟩ := h
  refine ⟨M, ((h1.other (N' := fun j => (B ≤ j ∧ j < w.heap.size ∧ ¬ M j) ∨ w.heap.size ≤ j) (fun j h => h)).no hk).other (fun j h => .inl ?_), ((h2.other (N' := fun j => (B ≤ j ∧ j < w.heap.size ∧ M j) ∨ w.heap.size ≤ j) (fun j h => h)).no hk).other (fun j h => .inl ?_)⟩
  · by_cases e : j < w.heap.size
    · exact .inl ⟨h.1, e, h.2.2⟩
    · exact .inr (by omega)
  · by_cases e : j < w.heap.size
    · exact .inl ⟨h.1, e, h.2.2⟩
    · exact .inr (by omega)
theorem first_step {w : World} {B b1 r1 b2 r2 T1 T2 : Nat} (h : TP w B b1 r1 b2 r2 T1 T2) (hT : T1 ≤ 1400000000000) (x : OpE) (hI : x.LowIn w B) (hS : x.Sz) :
    Calls Try.prog 20 #[.pointer (some ⟨b1, 0, none⟩), .pointer (some ⟨r1, 0, none⟩), .agg x.cells.toArray] w fun e w' => e = .returned (.bool true) ∧ TP w' B b1 r1 b2 r2 (T1 + 1) T2 ∧ Kp (fun j => B ≤ j) w w' := by
  obtain ⟨M, h1, h2⟩ := h
  refine Calls.mono (step_any h1 (fun j h => h.2.1) hT x hI hS) ?_
  rintro e w' ⟨he, hp, hk⟩
  have h4 := (h2.other (N' := fun j => (B ≤ j ∧ j < w.heap.size ∧ M j) ∨ w.heap.size ≤ j) (fun j h => h)).kp hk (fun j hj => by
    refine ⟨?_, hj.1⟩
    by_cases hs : j < w.heap.size
    · by_cases hm : M j
      · exact .inl (.inl ⟨hj.1, hs, hm⟩)
      · exact absurd ⟨hj.1, hs, hm⟩ hj.2
    · exact .inr (by omega))
  refine ⟨he, ⟨fun j => M j ∨ w.heap.size ≤ j, hp.other (fun j h => .inl ?_), h4.other (fun j h => .inl ?_)⟩, hk.mono (fun j _ h => h.1)⟩
  · exact ⟨h.1, Nat.lt_of_not_le fun e => h.2.2 (.inr e), fun e => h.2.2 (.inl e)⟩
  · by_cases hs : j < w.heap.size
    · exact .inl ⟨h.1, hs, h.2.2.resolve_right (by omega)⟩
    · exact .inr (by omega)
theorem second_step {w : World} {B b1 r1 b2 r2 T1 T2 : Nat} (h : TP w B b1 r1 b2 r2 T1 T2) (hT : T2 ≤ 1400000000000) (x : OpE) (hI : x.LowIn w B) (hS : x.Sz) :
    Calls Try.prog 20 #[.pointer (some ⟨b2, 0, none⟩), .pointer (some ⟨r2, 0, none⟩), .agg x.cells.toArray] w fun e w' => e = .returned (.bool true) ∧ TP w' B b1 r1 b2 r2 T1 (T2 + 1) ∧ Kp (fun j => B ≤ j) w w' :=
  Calls.mono (first_step h.swap hT x hI hS) fun e w' ⟨he, h1, h2⟩ => ⟨he, h1.swap, h2⟩
theorem lone_step {w : World} {B b r T : Nat} (h : PW w B (fun _ => False) b r T) (hT : T ≤ 1400000000000) (x : OpE) (hI : x.LowIn w B) (hS : x.Sz) :
    Calls Try.prog 20 #[.pointer (some ⟨b, 0, none⟩), .pointer (some ⟨r, 0, none⟩), .agg x.cells.toArray] w fun e w' => e = .returned (.bool true) ∧ PW w' B (fun _ => False) b r (T + 1) ∧ Kp (fun j => B ≤ j) w w' :=
  Calls.mono (step_any h (fun j h => h.elim) hT x hI hS) fun e w' ⟨he, h1, h2⟩ => ⟨he, h1, h2.mono (fun j _ h => h.1)⟩
theorem lowIn_of {W w : World} {B : Nat} (hB : B = W.heap.size) (hk : Kp (fun j => B ≤ j) W w) {x : OpE} (h : x.In W) : x.LowIn w B := by
  subst hB
  exact ⟨h.d.low.kp hk (fun j h => h), h.r.low.kp hk (fun j h => h), fun q hq => (h.i q hq).1.low.kp hk (fun j h => h)⟩
/-- A call of the script is loaded whole. -/
theorem range_op {W w : World} {B : Nat} (hB : B = W.heap.size) (hk : Kp (fun j => B ≤ j) W w) {b off i : Nat} {e : OpE} (hb : b < W.heap.size) (h : ∀ j u, e.cells[j]? = some u → W.cell? ⟨b, off + i * 11 + j, none⟩ = some u) : w.rangeAt b (off + i * 11) e.cells := fun j u hu =>
  (hk.cell (p := ⟨b, off + i * 11 + j, none⟩) hb (fun e => by have : B ≤ b := e; omega)).trans (h j u hu)
end Go.Proofs.Ytjhefbkigmamfaa
