/-
  knows(): in every world that holds the two tables it gives back true, and leaves what was there as it was.
-/
import Derived.Test.YtecohkoekifeiaaGreatDoorKo
import Derived.Test.YtecohkoekifeiaaGreatDoorLa
import Derived.Test.YtecohkoekifeiaaGreatDoorLb
import Derived.Test.YtecohkoekifeiaaGreatDoorLc
import Derived.Test.YtecohkoekifeiaaGreatDoorLd
import Derived.Test.YtecohkoekifeiaaGreatDoorLe
import Derived.Test.YtecohkoekifeiaaGreatDoorLf
import Derived.Test.YtecohkoekifeiaaGreatDoorLg
import Derived.Test.YtecohkoekifeiaaGreatDoorLh
import Derived.Test.YtecohkoekifeiaaGreatDoorLi
import Derived.Test.YtecohkoekifeiaaGreatDoorLj
import Derived.Test.YtecohkoekifeiaaGreatDoorLk
import Derived.Test.YtecohkoekifeiaaGreatDoorLl
import Derived.Test.YtecohkoekifeiaaGreatDoorLm
set_option linter.all false
namespace Go.Ev
open Go Go.Proofs

theorem orc0 (low : Nat → Option Obj) : OrcOk KC low := fun f args h e h1 ho => by cases ho
theorem q1enter : enterF KC Q1E.f Q1E.args.toArray .normal = some Q1S0.fr := by kernel_rfl
theorem q1end : astep KC (arun KC 0) Q1S3 = .done Q1E.res Q1S3.h := by kernel_rfl
theorem q1ok {low : Nat → Option Obj} (ok : Ok KC low) : EntOk KC low Q1E :=
  ent_ok ok (orc0 low) (s0 := Q1S0) (s1 := Q1S3) q1enter rfl rfl (fun g => leg ok (orc0 low) q1leg3 (leg ok (orc0 low) q1leg2 (leg ok (orc0 low) q1leg1 (g)))) q1end rfl
theorem q2enter : enterF KC Q2E.f Q2E.args.toArray .normal = some Q2S0.fr := by kernel_rfl
theorem q2end : astep KC (arun KC 0) Q2S7 = .done Q2E.res Q2S7.h := by kernel_rfl
theorem q2ok {low : Nat → Option Obj} (ok : Ok KC low) : EntOk KC low Q2E :=
  ent_ok ok (orc0 low) (s0 := Q2S0) (s1 := Q2S7) q2enter rfl rfl (fun g => leg ok (orc0 low) q2leg7 (leg ok (orc0 low) q2leg6 (leg ok (orc0 low) q2leg5 (leg ok (orc0 low) q2leg4 (leg ok (orc0 low) q2leg3 (leg ok (orc0 low) q2leg2 (leg ok (orc0 low) q2leg1 (g)))))))) q2end rfl
theorem q3enter : enterF KC Q3E.f Q3E.args.toArray .normal = some Q3S0.fr := by kernel_rfl
theorem q3end : astep KC (arun KC 0) Q3S3 = .done Q3E.res Q3S3.h := by kernel_rfl
theorem q3ok {low : Nat → Option Obj} (ok : Ok KC low) : EntOk KC low Q3E :=
  ent_ok ok (orc0 low) (s0 := Q3S0) (s1 := Q3S3) q3enter rfl rfl (fun g => leg ok (orc0 low) q3leg3 (leg ok (orc0 low) q3leg2 (leg ok (orc0 low) q3leg1 (g)))) q3end rfl
theorem q4enter : enterF KC Q4E.f Q4E.args.toArray .normal = some Q4S0.fr := by kernel_rfl
theorem q4end : astep KC (arun KC 0) Q4S3 = .done Q4E.res Q4S3.h := by kernel_rfl
theorem q4ok {low : Nat → Option Obj} (ok : Ok KC low) : EntOk KC low Q4E :=
  ent_ok ok (orc0 low) (s0 := Q4S0) (s1 := Q4S3) q4enter rfl rfl (fun g => leg ok (orc0 low) q4leg3 (leg ok (orc0 low) q4leg2 (leg ok (orc0 low) q4leg1 (g)))) q4end rfl
theorem q5enter : enterF KC Q5E.f Q5E.args.toArray .normal = some Q5S0.fr := by kernel_rfl
theorem q5end : astep KC (arun KC 0) Q5S5 = .done Q5E.res Q5S5.h := by kernel_rfl
theorem q5ok {low : Nat → Option Obj} (ok : Ok KC low) : EntOk KC low Q5E :=
  ent_ok ok (orc0 low) (s0 := Q5S0) (s1 := Q5S5) q5enter rfl rfl (fun g => leg ok (orc0 low) q5leg5 (leg ok (orc0 low) q5leg4 (leg ok (orc0 low) q5leg3 (leg ok (orc0 low) q5leg2 (leg ok (orc0 low) q5leg1 (g)))))) q5end rfl
theorem q6enter : enterF KC Q6E.f Q6E.args.toArray .normal = some Q6S0.fr := by kernel_rfl
theorem q6end : astep KC (arun KC 0) Q6S3 = .done Q6E.res Q6S3.h := by kernel_rfl
theorem q6ok {low : Nat → Option Obj} (ok : Ok KC low) : EntOk KC low Q6E :=
  ent_ok ok (orc0 low) (s0 := Q6S0) (s1 := Q6S3) q6enter rfl rfl (fun g => leg ok (orc0 low) q6leg3 (leg ok (orc0 low) q6leg2 (leg ok (orc0 low) q6leg1 (g)))) q6end rfl
theorem orc1 {low : Nat → Option Obj} (ok : Ok KC low) : OrcOk KC1 low := orc_ok _ (List.forall_mem_cons.2 ⟨q1ok ok, List.forall_mem_cons.2 ⟨q2ok ok, List.forall_mem_cons.2 ⟨q3ok ok, List.forall_mem_cons.2 ⟨q4ok ok, List.forall_mem_cons.2 ⟨q5ok ok, List.forall_mem_cons.2 ⟨q6ok ok, List.forall_mem_nil _⟩⟩⟩⟩⟩⟩)

theorem endK : astep KC1 (arun KC1 0) S33 = .done (.returned (.bool true)) S33.h := by kernel_rfl
theorem enterK : enterF KC1 18 #[] .normal = some S0.fr := by kernel_rfl
theorem fnK : S33.fr.fn = 18 := by kernel_rfl
def rho0 : Emb := fun k => if k < 13 then some ⟨k, 0, 0⟩ else none
theorem rho0_lt {k : Nat} (h : k < 13) : rho0 k = some ⟨k, 0, 0⟩ := if_pos h
theorem rho0_ge {k : Nat} (h : 13 ≤ k) : rho0 k = none := if_neg (by omega)
theorem rho0_some {k : Nat} {g : Img} (h : rho0 k = some g) : k < 13 ∧ g = ⟨k, 0, 0⟩ := by
  by_cases hk : k < 13
  · rw [rho0_lt hk] at h; cases h; exact ⟨hk, rfl⟩
  · rw [rho0_ge (by omega)] at h; cases h

theorem simK {w : World} (h1 : w.heap[1]? = some (.cells powRow 270)) (hz : 13 ≤ w.heap.size) : Sim KC (fun b => w.heap[b]?) rho0 h0 w := by
  have hb : KC.base = 13 := rfl
  have hget : ∀ k o, h0.get k = some o → k = 1 ∧ o = .cells powRow 270 false false := by
    intro k o hk
    have hm := trOf_get (show (trOf [(1, AO.cells powRow 270 false false)]).get k = some o from hk)
    simp only [List.mem_singleton, Prod.mk.injEq] at hm
    exact hm
  refine ⟨fun k o hk => ?_, fun k k' o o' g g' a b => ?_, fun k hk => rho0_ge hk, fun k g hk => ?_, fun k g hkb hk => ?_, fun k hk => rho0_lt hk, fun _ _ => rfl, Nat.le_refl _⟩
  · obtain ⟨rfl, rfl⟩ := hget k o hk
    refine ⟨⟨1, 0, 0⟩, _, rho0_lt (by omega), h1, .cells (fun _ => ⟨Nat.le_refl _, fun i _ => by simp⟩) (fun _ => ⟨rfl, rfl⟩) (fun h => by cases h) fun i v v' e1 e2 => ?_⟩
    simp only [Nat.zero_add] at e2
    exact (AR.refl_plain (by decide)).2 i v v' e1 e2
  · obtain ⟨rfl, _⟩ := hget k o a
    obtain ⟨rfl, _⟩ := hget k' o' b
    intros; rfl
  · obtain ⟨h2, rfl⟩ := rho0_some hk
    exact Nat.lt_of_lt_of_le h2 hz
  · obtain ⟨h2, _⟩ := rho0_some hk
    have : 13 ≤ k := hkb
    omega

theorem knows_calls1 {w : World} {m : Int} {t : TypeId} {f : Nat × Nat} (h0' : w.heap[0]? = some (.cells #[.int .i64 m] t f)) (h1 : w.heap[1]? = some (.cells powRow 270)) (hz : 13 ≤ w.heap.size) :
    Calls KC1.P 18 #[] w fun e w' => e = .returned (.bool true) ∧ w'.os = w.os ∧ w'.tape = w.tape ∧ w'.output = w.output ∧ w.heap.size ≤ w'.heap.size ∧ ∀ b, b < w.heap.size → w'.heap[b]? = w.heap[b]? := by
  intro cs
  have ok0 : Ok KC (fun b => w.heap[b]?) := okK h0'
  have ok : Ok KC1 (fun b => w.heap[b]?) := ok0.orc'
  have oo : OrcOk KC1 (fun b => w.heap[b]?) := orc1 ok0
  have sim : Sim KC1 (fun b => w.heap[b]?) rho0 h0 w := (simK h1 hz).orc'
  have m0 : MR KC1 (fun b => w.heap[b]?) rho0 S0 (Frame.enter KC1.P 18 #[] .normal) [] w := ⟨enter_rel enterK (AR.nil _), .nil, sim⟩
  have g0 : GoOk KC1 (fun b => w.heap[b]?) rho0 h0 (Frame.enter KC1.P 18 #[] .normal) [] cs w S0 := ⟨rho0, _, [], w, .refl _ _, m0, Nx.refl sim⟩
  have g1 := leg ok oo leg1 g0
  have g2 := leg ok oo leg2 g1
  have g3 := leg ok oo leg3 g2
  have g4 := leg ok oo leg4 g3
  have g5 := leg ok oo leg5 g4
  have g6 := leg ok oo leg6 g5
  have g7 := leg ok oo leg7 g6
  have g8 := leg ok oo leg8 g7
  have g9 := leg ok oo leg9 g8
  have g10 := leg ok oo leg10 g9
  have g11 := leg ok oo leg11 g10
  have g12 := leg ok oo leg12 g11
  have g13 := leg ok oo leg13 g12
  have g14 := leg ok oo leg14 g13
  have g15 := leg ok oo leg15 g14
  have g16 := leg ok oo leg16 g15
  have g17 := leg ok oo leg17 g16
  have g18 := leg ok oo leg18 g17
  have g19 := leg ok oo leg19 g18
  have g20 := leg ok oo leg20 g19
  have g21 := leg ok oo leg21 g20
  have g22 := leg ok oo leg22 g21
  have g23 := leg ok oo leg23 g22
  have g24 := leg ok oo leg24 g23
  have g25 := leg ok oo leg25 g24
  have g26 := leg ok oo leg26 g25
  have g27 := leg ok oo leg27 g26
  have g28 := leg ok oo leg28 g27
  have g29 := leg ok oo leg29 g28
  have g30 := leg ok oo leg30 g29
  have g31 := leg ok oo leg31 g30
  have g32 := leg ok oo leg32 g31
  have g33 := leg ok oo leg33 g32
  obtain ⟨ρ1, fr1, cs1, w1, r1, m1, nx⟩ := g33
  obtain ⟨rfl, ⟨e', q1, q2⟩, _⟩ := (astep_sound (bot := cs) ok (arun_sound ok oo 0) m1).2.2 _ _ endK
  obtain ⟨v', rfl, hv⟩ := q2
  cases hv
  refine ⟨.returned (.bool true), w1, fr1, ⟨rfl, nx.env.2.1, nx.env.1, nx.env.2.2, nx.size, fun b hb => (nx.keep b hb ?_).1⟩, r1, m1.fr.fn.trans fnK, q1⟩
  rintro ⟨k, o, g, f1, f2, _, _⟩
  have hk : 13 ≤ k := f1
  have hm := trOf_get (show (trOf [(1, AO.cells powRow 270 false false)]).get k = some o from f2)
  simp only [List.mem_singleton, Prod.mk.injEq] at hm
  omega
theorem knows_calls {w : World} {m : Int} {t : TypeId} {f : Nat × Nat} (h0' : w.heap[0]? = some (.cells #[.int .i64 m] t f)) (h1 : w.heap[1]? = some (.cells powRow 270)) (hz : 13 ≤ w.heap.size) :
    Calls Tryz.prog 18 #[] w fun e w' => e = .returned (.bool true) ∧ w'.os = w.os ∧ w'.tape = w.tape ∧ w'.output = w.output ∧ w.heap.size ≤ w'.heap.size ∧ ∀ b, b < w.heap.size → w'.heap[b]? = w.heap[b]? := knows_calls1 h0' h1 hz
end Go.Ev
