/-
  What must come ('knows'), walked once: true.
-/
import Derived.Test.YtjhefbkigmamfaaHe
import Derived.Test.YtjhefbkigmamfaaDo
import Derived.Test.YtjhefbkigmamfaaTk
namespace Go.Proofs.Ytjhefbkigmamfaa
open Go.ChangeShapes Go.WideShapes Go.ChangeAt Go.RowKit
set_option linter.unusedVariables false

/-- The cells of a list of calls. -/
def CallsAt (w : World) (a : Option Addr) (l : List CallV) : Prop := ∀ (k : Nat) (q : CallV), l[k]? = some q → ∃ g, a = some ⟨g, 0, none⟩ ∧ ∀ (j : Nat) (u : Value), q.cells[j]? = some u → w.cell? ⟨g, k * 8 + j, none⟩ = some u
theorem Client.list {w : World} {B : Nat} {R : Nat → Prop} {b : Nat} {v : CV} (k : Client w B R b v) : CallsAt w v.ca v.cl := by
  intro i q hq
  have h0 : (flat8 v.cl)[i * 8 + 0]? = some (.int .i64 q.to) := by rw [flat8_get v.cl i q 0 hq (by omega)]; rfl
  obtain ⟨g, hg, _⟩ := Owns.cell k.own h0
  refine ⟨g, hg, fun j u hu => ?_⟩
  have hj : j < 8 := by
    have := (List.getElem?_eq_some_iff.1 hu).1
    simpa [CallV.cells] using this
  obtain ⟨g', e, c⟩ := Owns.cell k.own (by rw [flat8_get v.cl i q j hq hj]; exact hu)
  rw [hg] at e
  cases e
  exact c
theorem CallsAt.kp {w w' : World} {a : Option Addr} {l : List CallV} (h : CallsAt w a l) {S : Nat → Prop} (k : Kp S w w') (hn : ∀ g, blockOf a = some g → ¬ S g) : CallsAt w' a l := by
  intro i q hq
  obtain ⟨g, rfl, hc⟩ := h i q hq
  exact ⟨g, rfl, fun j u hu => (k.cell (p := ⟨g, i * 8 + j, none⟩) (World.block_lt_of_cell? w _ (hc j u hu)) (hn g rfl)).trans (hc j u hu)⟩
theorem few_small (z : Int) (h0 : 0 ≤ z) (h1 : z ≤ 1000000) : Few z := ⟨h0, by omega⟩
def open0 : OrdV := ⟨1, 0, 0, none, [], 0⟩
theorem doE_open {v : CV} (h : v.state = 0) : doE v open0 = 0 := by
  unfold doE open0
  rw [if_neg (by simp [rightO]), if_neg (by simpa using h), if_neg (by simp)]

set_option maxRecDepth 100000 in
set_option maxHeartbeats 4000000 in
theorem knows_any (w : World) : Calls Try.prog 11 #[] w fun e w' => e = .returned (.bool true) ∧ Kp (fun _ => False) w w' := by
  have hr : Row (w.alloc (.cells #[.int .i64 0, .int .i64 1] 3)) (some ⟨w.heap.size, 0, none⟩) (ints [0, 1]) := by
    intro i v hv
    refine ⟨w.heap.size, 0, rfl, ?_⟩
    rw [Nat.zero_add]
    exact cell_of (heap_new w _) i (by simpa [ints] using hv)
  have HN := Lib.hid (new_good (c := 2) hr (show Good 3 [0, 1] 5 from ⟨by decide, by decide, by decide, by decide, by decide⟩))
  have hk0 : Kp (fun _ => False) w (w.alloc (.cells #[.int .i64 0, .int .i64 1] 3)) := (Kp.refl _ _).alloc _
  have HK0 := Lib.hid hk0
  obtain ⟨B, hB⟩ : ∃ B, B = (w.alloc (.cells #[.int .i64 0, .int .i64 1] 3)).heap.size := ⟨_, rfl⟩
  rw [← hB] at HN
  have hwB : w.heap.size ≤ B := by rw [hB]; simp
  have HB := Lib.hid hB
  clear hr hk0 hB
  go_enter Try.func11, Try.ntmps11
  go_wp2_with fail
  refine HN.out.mono ?_
  rintro e w1 ⟨R, b, sa, sc, rfl, k1, hk1⟩
  have hs1 : B ≤ w1.heap.size := by have := hk1.size; have := HB.out; omega
  have K1 := Lib.hid k1
  have HK1 := Lib.hid (HK0.out.trans hk1)
  clear k1 hk1 HN HK0
  go_wp2_with fail
  refine (do_yes K1.out open0 (doE_open rfl) (Row.nil _ _) (fun g hg => by cases hg) (by simp [open0]) (few_small _ (by simp [cv0]) (by simp [cv0])) (by simp [cv0]) (few_small _ (by simp [cv0]) (by simp [cv0])) (by simp [cv0]) (by simp [cv0]) hs1).mono ?_
  rintro e w2 ⟨rfl, oa, oc, da, dc, R2, ca, cc, k2, hk2, hr2, hm2⟩
  obtain ⟨v2, e2⟩ : ∃ v2 : CV, v2 = { more (withO (cv0 sa [0, 1] sc 3 5) open0 oa oc) with ca := ca, cl := (cv0 sa [0, 1] sc 3 5).cl ++ [callOf (more (withO (cv0 sa [0, 1] sc 3 5) open0 oa oc)) da dc], cc := cc } := ⟨_, rfl⟩
  rw [← e2] at k2
  obtain ⟨q0, hq0⟩ : ∃ q0, q0 = callOf (more (withO (cv0 sa [0, 1] sc 3 5) open0 oa oc)) da dc := ⟨_, rfl⟩
  have g1 : v2.cl = [q0] := by rw [e2, hq0]; rfl
  have g2 : q0.to = 0 ∧ q0.id = 3000001 := by rw [hq0]; exact ⟨rfl, rfl⟩
  have g3 : v2.state = 1 ∧ v2.id = 3 ∧ v2.tries = 1 ∧ v2.sl = [0, 1] ∧ v2.ca = ca := by rw [e2]; exact ⟨rfl, rfl, rfl, rfl, rfl⟩
  obtain ⟨g, hg, hcs⟩ := k2.list 0 q0 (by rw [g1]; rfl)
  have hgb : g ≠ b := fun e => k2.ne (by rw [hg, e]; rfl)
  have hgB : B ≤ g := (k2.own.from (by rw [hg]; rfl)).1
  have a0 : w2.cell? ⟨g, 0, none⟩ = some (.int .i64 0) := (hcs 0 _ rfl).trans (by rw [g2.1])
  have a1 : w2.cell? ⟨g, 1, none⟩ = some (.int .i64 3000001) := (hcs 1 _ rfl).trans (by rw [g2.2])
  have HL := Lib.hid (show v2.cl.length = 1 by rw [g1]; rfl)
  have HG := Lib.hid hg
  have K2 := Lib.hid k2
  have G3 := Lib.hid g3
  have HK2 := Lib.hid (show Kp (fun j => B ≤ j) w w2 from HK1.out.no.trans (hk2.mono (fun j _ h => (K1.out.foot h).1)))
  have hs2 : B ≤ w2.heap.size := by have := hk2.size; omega
  have A0 := Lib.hid a0
  have A1 := Lib.hid a1
  have HGB := Lib.hid hgb
  clear k2 e2 hq0 g1 g2 g3 hcs hg a0 a1 hk2 hr2 hm2 K1 HK1 hgb
  go_wp2_with fail
  refine (calls_any K2.out).mono ?_
  rintro e w3 ⟨rfl, k3, hk3⟩
  rw [HL.out, HG.out]
  have K3 := Lib.hid k3
  have HK3 := Lib.hid (HK2.out.trans (hk3.mono (fun j _ (e : j = b) => by rw [e]; exact K2.out.ge)))
  have B0 := Lib.hid ((hk3.cell (p := ⟨g, 0, none⟩) (World.block_lt_of_cell? _ _ A0.out) (fun e => HGB.out e)).trans A0.out)
  have B1 := Lib.hid ((hk3.cell (p := ⟨g, 1, none⟩) (World.block_lt_of_cell? _ _ A1.out) (fun e => HGB.out e)).trans A1.out)
  have hs3 : B ≤ w3.heap.size := by have := hk3.size; omega
  clear k3 hk3 A0 A1 K2 HK2
  go_wp2_with fail
  refine (heard_leader K3.out ⟨3000001, 30, 0, 0, none, [], 0, 1⟩ (few_small _ (by show 0 ≤ v2.tries; rw [G3.out.2.2.1]; decide) (by show v2.tries ≤ _; rw [G3.out.2.2.1]; decide)) (few_small _ (by show 0 ≤ v2.tries + 1; rw [G3.out.2.2.1]; decide) (by show v2.tries + 1 ≤ _; rw [G3.out.2.2.1]; decide)) G3.out.1 (by show 3000001 = v2.id * 1000000 + v2.tries; rw [G3.out.2.1, G3.out.2.2.1]; rfl) rfl (by simp) hs3).mono ?_
  rintro e w4 ⟨rfl, i, da2, dc2, R4, ca4, cc4, hi, k4, hk4, hr4, hm4⟩
  have hi1 : i = 1 := by
    have e : v2.sl = [0, 1] := G3.out.2.2.2.1
    rcases hi with ⟨h, _⟩ | ⟨h1, h2⟩
    · exact absurd (show (1 : Int) ∈ v2.sl by rw [e]; simp) h
    · have h1' : i < v2.sl.length := h1
      have h2' : v2.sl.getD i 0 = 1 := h2
      rw [e] at h1' h2'
      have : i = 0 ∨ i = 1 := by simp at h1'; omega
      rcases this with rfl | rfl
      · simp at h2'
      · rfl
  obtain ⟨v4, e4⟩ : ∃ v4 : CV, v4 = { more { { v2 with ca := none, cl := [], cc := 0 } with at_ := i } with ca := ca4, cl := [] ++ [callOf (more { { v2 with ca := none, cl := [], cc := 0 } with at_ := i }) da2 dc2], cc := cc4 } := ⟨_, rfl⟩
  rw [← e4] at k4
  obtain ⟨q4, hq4⟩ : ∃ q4, q4 = callOf (more { { v2 with ca := none, cl := [], cc := 0 } with at_ := i }) da2 dc2 := ⟨_, rfl⟩
  have g1 : v4.cl = [q4] := by rw [e4, hq4]; rfl
  have g2 : q4.to = 1 ∧ q4.id = 3000002 := by
    rw [hq4, hi1]
    refine ⟨?_, ?_⟩
    · show v2.sl.getD 1 0 = 1
      rw [G3.out.2.2.2.1]
      rfl
    · show v2.id * 1000000 + (v2.tries + 1) = 3000002
      rw [G3.out.2.1, G3.out.2.2.1]
      rfl
  have g3 : v4.state = 1 := by rw [e4]; exact G3.out.1
  obtain ⟨g', hg', hcs⟩ := k4.list 0 q4 (by rw [g1]; rfl)
  have a0 : w4.cell? ⟨g', 0, none⟩ = some (.int .i64 1) := (hcs 0 _ rfl).trans (by rw [g2.1])
  have a1 : w4.cell? ⟨g', 1, none⟩ = some (.int .i64 3000002) := (hcs 1 _ rfl).trans (by rw [g2.2])
  have hgb' : g' ≠ b := fun e => k4.ne (by rw [hg', e]; rfl)
  have hfoot : ∀ j, Foot b (none : Option Addr) j → j = b := fun j h => h.elim id (fun e => by cases e)
  have C0 := Lib.hid ((hk4.cell (p := ⟨g, 0, none⟩) (World.block_lt_of_cell? _ _ B0.out) (fun e => HGB.out (hfoot _ e))).trans B0.out)
  have C1 := Lib.hid ((hk4.cell (p := ⟨g, 1, none⟩) (World.block_lt_of_cell? _ _ B1.out) (fun e => HGB.out (hfoot _ e))).trans B1.out)
  have HK4 := Lib.hid (HK3.out.trans (hk4.mono (fun j _ h => by rw [hfoot j h]; exact K3.out.ge)))
  have HL4 := Lib.hid (show v4.cl.length = 1 by rw [g1]; rfl)
  have HG4 := Lib.hid hg'
  have K4 := Lib.hid k4
  have H4 := Lib.hid g3
  have A0 := Lib.hid a0
  have A1 := Lib.hid a1
  have HGB4 := Lib.hid hgb'
  clear k4 e4 hq4 g1 g2 g3 hcs hg' a0 a1 hk4 hr4 hm4 K3 HK3 hgb' hfoot hi hi1 B0 B1
  go_wp2_with fail
  refine (calls_any K4.out).mono ?_
  rintro e w5 ⟨rfl, k5, hk5⟩
  rw [HL4.out, HG4.out]
  have K5 := Lib.hid k5
  have HK5 := Lib.hid (HK4.out.trans (hk5.mono (fun j _ (e : j = b) => by rw [e]; exact K4.out.ge)))
  have c0 : w5.cell? ⟨g, 0, none⟩ = some (.int .i64 0) := (hk5.cell (p := ⟨g, 0, none⟩) (World.block_lt_of_cell? _ _ C0.out) (fun e => HGB.out e)).trans C0.out
  have c1 : w5.cell? ⟨g, 1, none⟩ = some (.int .i64 3000001) := (hk5.cell (p := ⟨g, 1, none⟩) (World.block_lt_of_cell? _ _ C1.out) (fun e => HGB.out e)).trans C1.out
  have c2 : w5.cell? ⟨g', 0, none⟩ = some (.int .i64 1) := (hk5.cell (p := ⟨g', 0, none⟩) (World.block_lt_of_cell? _ _ A0.out) (fun e => HGB4.out e)).trans A0.out
  have c3 : w5.cell? ⟨g', 1, none⟩ = some (.int .i64 3000002) := (hk5.cell (p := ⟨g', 1, none⟩) (World.block_lt_of_cell? _ _ A1.out) (fun e => HGB4.out e)).trans A1.out
  have hbu := busy_any K5.out
  rw [show (({ v4 with ca := none, cl := [], cc := 0 } : CV).state != 0) = true from (show (v4.state != 0) = true by rw [H4.out]; rfl)] at hbu
  have HBU := Lib.hid hbu
  clear hbu
  clear k5 hk5 C0 C1 A0 A1 K4 HK4
  go_wp2_with (first | (go_at_call 10; refine (num_any _ _).mono ?_; rintro e w' ⟨rfl, rfl⟩) | (go_at_call 17; refine HBU.out.mono ?_; rintro e w6 ⟨rfl, rfl⟩))
  go_ret
  exact ⟨rfl, (HK5.out.mono (S' := fun j => w.heap.size ≤ j) (fun j _ (h : B ≤ j) => by omega)).fin⟩
end Go.Proofs.Ytjhefbkigmamfaa
