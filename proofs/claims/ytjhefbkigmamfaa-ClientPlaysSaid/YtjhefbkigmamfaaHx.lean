/-
  Heard, where it is the answer that ends an order: walked once. Where the counts are few.
-/
import Derived.Test.YtjhefbkigmamfaaOw
namespace Go.Proofs.Ytjhefbkigmamfaa
open Go.ChangeShapes Go.WideShapes Go.ChangeAt Go.RowKit
set_option linter.unusedVariables false

/-- No refusal and no wait. -/
def Ends (e : Int) : Prop := e ≠ 30 ∧ e ≠ 42 ∧ e ≠ 37 ∧ e ≠ 31 ∧ e ≠ 32 ∧ e ≠ 7
/-- A client whose order has ended. -/
def ended (v : CV) (a : AnsV) (na : Option Addr) (new : List RecV) (nc : Nat) : CV := { v with state := 2, ans := { a with ra := na, rl := new, rc := nc }, session := if v.ord.kind = 1 ∧ a.e = 0 then a.session else v.session }

theorem end_store {w : World} {B : Nat} {R : Nat → Prop} {b : Nat} {v : CV} (k : Client w B R b v) (a : AnsV) {na : Option Addr} {new : List RecV} (nc : Nat) (hr : Row w na (new.map RecV.val)) (hrr : ∀ r ∈ new, Row w r.a (bytes r.d)) (hn : ∀ g, (blockOf na = some g ∨ ∃ r ∈ new, blockOf r.a = some g) → B ≤ g ∧ g < w.heap.size ∧ ¬ Foot b v.ca g) (ss : Int) :
    ∃ R', (∀ w', w'.heap[b]? = some (.cells ({ v with state := 2, ans := { a with ra := na, rl := new, rc := nc }, session := ss } : CV).cells 65 (0, 0)) → Kp (fun j => j = b) w w' → Client w' B R' b { v with state := 2, ans := { a with ra := na, rl := new, rc := nc }, session := ss }) ∧ (∀ j, R' j → R j ∨ blockOf na = some j ∨ ∃ r ∈ new, blockOf r.a = some j) := by
  refine ⟨fun j => R j ∨ blockOf na = some j ∨ ∃ r ∈ new, blockOf r.a = some j, fun w' hb hk => ?_, fun j h => h⟩
  have k2 := k.more (R' := fun j => R j ∨ blockOf na = some j ∨ ∃ r ∈ new, blockOf r.a = some j) (fun j h => .inl h) (fun j hj h => h.elim (k.dis j hj) (fun e => (hn j e).2.2 hj)) (fun j h => h.elim (k.lt j) (fun e => ⟨(hn j e).1, (hn j e).2.1⟩))
  exact k2.set hk _ hb ⟨rfl, rfl, rfl, rfl, rfl, rfl, rfl⟩ k2.at_ ⟨k2.ord, k2.ordR, k2.ordL⟩ ⟨hr, fun g hg => .inr (.inl hg), fun r hr => ⟨hrr r hr, fun g hg => .inr (.inr ⟨r, hr, hg⟩)⟩⟩

set_option maxRecDepth 100000 in
set_option maxHeartbeats 4000000 in
theorem heard_ends {w : World} {B : Nat} {R : Nat → Prop} {b : Nat} {v : CV} (k : Client w B R b v) (a : AnsV) (ht : Few v.tries) (hs : v.state = 1) (hi : a.id = v.id * 1000000 + v.tries) (he : Ends a.e) (hr : Row w a.ra (a.rl.map RecV.val)) (hrr : ∀ r ∈ a.rl, Row w r.a (bytes r.d) ∧ r.d.length ≤ 140737488355328) (hm : a.rl.length * 24 ≤ 140737488355328) :
    Calls Try.prog 15 #[.pointer (some ⟨b, 0, none⟩), .agg a.cells.toArray] w fun e w' => e = .returned (.int .i64 0) ∧ ∃ na new nc R', Client w' B R' b (ended v a na new nc) ∧ new.length = a.rl.length ∧ Copied w' w.heap.size a.rl new ∧ Kp (fun j => j = b) w w' ∧ (∀ j, R' j → R j ∨ w.heap.size ≤ j) := by
  obtain ⟨ai, ae, as_, an, ra, rl, rc, al⟩ := a
  show Calls Try.prog 15 #[.pointer (some ⟨b, 0, none⟩), .agg #[.int .i64 ai, .int .i64 ae, .int .i64 as_, .int .i64 an, .slice ra rl.length rc, .int .i64 al]] w _
  have hblt := lt_of_block k.blk
  have hka : Kp (fun _ => False) w (w.alloc (.cells #[.int .i64 ai, .int .i64 ae, .int .i64 as_, .int .i64 an, .slice ra rl.length rc, .int .i64 al] 47)) := (Kp.refl _ _).alloc _
  have k1 := k.no hka
  have hX := heap_new w (.cells #[.int .i64 ai, .int .i64 ae, .int .i64 as_, .int .i64 an, .slice ra rl.length rc, .int .i64 al] 47)
  simp only at hi he hr hrr hm
  have HE := Lib.hid he
  have HR := Lib.hid hr
  have HRR := Lib.hid hrr
  have HM := Lib.hid hm
  have HALL := Lib.hid (show ∀ j, All R b v j → B ≤ j ∧ j < w.heap.size from fun j h => k.all h)
  clear he hr hrr hm
  have K1 := Lib.hid k1
  have HX := Lib.hid hX
  have HKA := Lib.hid hka
  have HT := Lib.hid ht
  have hne : (ai != v.id * 1000000 + v.tries) = false := by simpa using hi
  have HS := Lib.hid hs
  clear k k1 hka hX ht hi hs
  go_enter Try.func15, Try.ntmps15
  go_upto_region 1 with fail
  generalize w.alloc (.cells #[.int .i64 ai, .int .i64 ae, .int .i64 as_, .int .i64 an, .slice ra rl.length rc, .int .i64 al] 47) = w1 at K1 HX HKA ⊢
  obtain ⟨X, hXe⟩ : ∃ X, X = w.heap.size := ⟨_, rfl⟩
  rw [← hXe] at HX ⊢
  have HXE := Lib.hid hXe
  have HXB := Lib.hid (show X ≠ b from fun e => by have := hblt; omega)
  clear hXe
  have c8 : w1.cell? ⟨b, 8, none⟩ = some (.int .i64 1) := by rw [← HS.out]; exact cell_of K1.out.blk 8 rfl
  have x0 : w1.cell? ⟨X, 0, none⟩ = some (.int .i64 ai) := cell_of HX.out 0 rfl
  go_wp2_with (first | (go_at_call 27; refine (none_no K1.out).mono ?_; rintro e wq ⟨rfl, rfl⟩))
  go_quiet ((go_at_call 32; exact Calls.quiet_of (number_dr (K1.out.no ((Kp.refl _ _).drewN _)) HT.out)))
  have K2 := Lib.hid (K1.out.no (w' := wq.drewN nq) ((Kp.refl _ _).drewN _))
  have HX2 := Lib.hid (show (wq.drewN nq).heap[X]? = _ from HX.out)
  have HK2 := Lib.hid (HKA.out.drewN nq)
  clear K1 HX HKA c8 x0 hne
  generalize wq.drewN nq = w2 at K2 HX2 HK2 ⊢
  have x1 : w2.cell? ⟨X, 1, none⟩ = some (.int .i64 ae) := cell_of HX2.out 1 rfl
  obtain ⟨n30, n42, n37, n31, n32, n7⟩ := HE.out
  have e30 : (ae == 30) = false := by simpa using n30
  have e42 : (ae == 42) = false := by simpa using n42
  have e37 : (ae == 37) = false := by simpa using n37
  have e31 : (ae == 31) = false := by simpa using n31
  have e32 : (ae == 32) = false := by simpa using n32
  have e7 : (ae == 7) = false := by simpa using n7
  clear n30 n42 n37 n31 n32 n7
  have x0 : w2.cell? ⟨X, 0, none⟩ = some (.int .i64 ai) := cell_of HX2.out 0 rfl
  have x2 : w2.cell? ⟨X, 2, none⟩ = some (.int .i64 as_) := cell_of HX2.out 2 rfl
  have x3 : w2.cell? ⟨X, 3, none⟩ = some (.int .i64 an) := cell_of HX2.out 3 rfl
  have x4 : w2.cell? ⟨X, 4, none⟩ = some (.slice ra rl.length rc) := cell_of HX2.out 4 rfl
  have x5 : w2.cell? ⟨X, 5, none⟩ = some (.int .i64 al) := cell_of HX2.out 5 rfl
  go_wp2_with fail
  have hO := own_any (w := w2) ⟨ai, ae, as_, an, ra, rl, rc, al⟩ (HR.out.no HK2.out) (fun r hr => ⟨(HRR.out r hr).1.no HK2.out, (HRR.out r hr).2⟩) HM.out
  refine Calls.mono hO ?_
  rintro e w3 ⟨na, new, nc, hev, hnl, hcp, hrow, hfr, hk3⟩
  have hev : e = .returned (.agg #[.int .i64 ai, .int .i64 ae, .int .i64 as_, .int .i64 an, .slice na new.length nc, .int .i64 al]) := hev
  subst hev
  have hs2 := HK2.out.size
  have hs3 := hk3.size
  have K3 := Lib.hid (K2.out.no hk3)
  have HX3 := Lib.hid (hk3.heap HX2.out (fun h => h))
  have HK3 := Lib.hid (HK2.out.trans hk3)
  have hfresh : ∀ g, (blockOf na = some g ∨ ∃ r ∈ new, blockOf r.a = some g) → w.heap.size ≤ g ∧ g < w3.heap.size := by
    rintro g (h | ⟨r, hr, h⟩)
    · have := hfr g h; omega
    · have := (hcp.row r hr).2 g h; omega
  obtain ⟨R4, hR4, hRR4⟩ := end_store K3.out ⟨ai, ae, as_, an, ra, rl, rc, al⟩ nc hrow (fun r hr => (hcp.row r hr).1) (fun g hg => by
    have h := hfresh g hg
    refine ⟨?_, h.2, fun hF => ?_⟩
    · have h9 := (HALL.out b (.inl (.inl rfl))); omega
    · have := (HALL.out g (.inl hF)).2; omega) v.session
  have HR4 := Lib.hid hR4
  have HRR4 := Lib.hid (show ∀ j, R4 j → R j ∨ w.heap.size ≤ j from fun j h => (hRR4 j h).imp_right (fun e => (hfresh j e).1))
  have HCP := Lib.hid hcp
  have HNL := Lib.hid hnl
  have HFR := Lib.hid hfresh
  clear hO hcp hrow hfr hk3 hnl hfresh hR4 hRR4 K2 HX2 HK2 x0 x1 x2 x3 x4 x5 e30 e42 e37 e31 e32 e7
  have c8 := cell_of K3.out.blk 8 (v := .int .i64 v.state) rfl
  have f8 := free_of K3.out.blk 8
  have c13 := cell_of K3.out.blk 13 (v := .int .i64 v.ans.id) rfl
  have f13 := free_of K3.out.blk 13
  have c14 := cell_of K3.out.blk 14 (v := .int .i64 v.ans.e) rfl
  have f14 := free_of K3.out.blk 14
  have c15 := cell_of K3.out.blk 15 (v := .int .i64 v.ans.session) rfl
  have f15 := free_of K3.out.blk 15
  have c16 := cell_of K3.out.blk 16 (v := .int .i64 v.ans.number) rfl
  have f16 := free_of K3.out.blk 16
  have c17 := cell_of K3.out.blk 17 (v := .slice v.ans.ra v.ans.rl.length v.ans.rc) rfl
  have f17 := free_of K3.out.blk 17
  have c18 := cell_of K3.out.blk 18 (v := .int .i64 v.ans.leader) rfl
  have f18 := free_of K3.out.blk 18
  go_upto_region 8 with fail
  have hk4 : Kp (fun j => j = b) w3 (((((((w3.setCell ⟨b, 8, none⟩ (.int .i64 2)).setCell ⟨b, 13, none⟩ (.int .i64 ai)).setCell ⟨b, 14, none⟩ (.int .i64 ae)).setCell ⟨b, 15, none⟩ (.int .i64 as_)).setCell ⟨b, 16, none⟩ (.int .i64 an)).setCell ⟨b, 17, none⟩ (.slice na new.length nc)).setCell ⟨b, 18, none⟩ (.int .i64 al)) := ((((((((Kp.refl (fun j => j = b) w3).setCell (p := ⟨b, 8, none⟩) (.inl rfl) _).setCell (p := ⟨b, 13, none⟩) (.inl rfl) _).setCell (p := ⟨b, 14, none⟩) (.inl rfl) _).setCell (p := ⟨b, 15, none⟩) (.inl rfl) _).setCell (p := ⟨b, 16, none⟩) (.inl rfl) _).setCell (p := ⟨b, 17, none⟩) (.inl rfl) _).setCell (p := ⟨b, 18, none⟩) (.inl rfl) _)
  have k4 := HR4.out _ (heap_set (heap_set (heap_set (heap_set (heap_set (heap_set (heap_set K3.out.blk 8 (.int .i64 2)) 13 (.int .i64 ai)) 14 (.int .i64 ae)) 15 (.int .i64 as_)) 16 (.int .i64 an)) 17 (.slice na new.length nc)) 18 (.int .i64 al)) hk4
  have hx4 := hk4.heap HX3.out (fun e => HXB.out e)
  generalize (((((((w3.setCell ⟨b, 8, none⟩ (.int .i64 2)).setCell ⟨b, 13, none⟩ (.int .i64 ai)).setCell ⟨b, 14, none⟩ (.int .i64 ae)).setCell ⟨b, 15, none⟩ (.int .i64 as_)).setCell ⟨b, 16, none⟩ (.int .i64 an)).setCell ⟨b, 17, none⟩ (.slice na new.length nc)).setCell ⟨b, 18, none⟩ (.int .i64 al)) = w4 at hk4 k4 hx4 ⊢
  have K4 := Lib.hid k4
  have HK4 := Lib.hid (show Kp (fun j => j = b) w w4 from (HK3.out.mono (S' := fun j => j = b) (fun _ _ h => h.elim)).trans hk4)
  have HCP4 := Lib.hid (HCP.out.kp hk4 (fun r hr g hg (e : g = b) => by have := (HFR.out g (.inr ⟨r, hr, hg⟩)).1; omega))
  have x1 : w4.cell? ⟨X, 1, none⟩ = some (.int .i64 ae) := cell_of hx4 1 rfl
  have x2 : w4.cell? ⟨X, 2, none⟩ = some (.int .i64 as_) := cell_of hx4 2 rfl
  have c9 : w4.cell? ⟨b, 9, none⟩ = some (.int .i64 v.ord.kind) := cell_of K4.out.blk 9 rfl
  have c5 : w4.cell? ⟨b, 5, none⟩ = some (.int .i64 v.session) := cell_of K4.out.blk 5 rfl
  have f5 := free_of K4.out.blk 5
  clear hk4 k4 hx4 c8 c13 c14 c15 c16 c17 c18 f8 f13 f14 f15 f16 f17 f18 K3 HX3 HK3 HCP HR4
  by_cases hk : v.ord.kind = 1
  · have hkb : (v.ord.kind == 1) = true := by simp [hk]
    by_cases he0 : ae = 0
    · have heb : (ae == 0) = true := by simp [he0]
      have HSS := Lib.hid (show (if v.ord.kind = 1 ∧ ae = 0 then as_ else v.session) = as_ from if_pos ⟨hk, he0⟩)
      have hk5 : Kp (fun j => j = b) w4 (w4.setCell ⟨b, 5, none⟩ (.int .i64 as_)) := (Kp.refl (fun j => j = b) _).setCell (p := ⟨b, 5, none⟩) (.inl rfl) _
      have HK5 := Lib.hid hk5
      clear hk he0 hk5
      go_wp2_with fail
      go_ret
      have k4 := K4.out
      have k5 := k4.set HK5.out ({ v with state := 2, ans := ⟨ai, ae, as_, an, na, new, nc, al⟩, session := as_ } : CV) (heap_set k4.blk 5 (.int .i64 as_)) ⟨rfl, rfl, rfl, rfl, rfl, rfl, rfl⟩ k4.at_ ⟨k4.ord, k4.ordR, k4.ordL⟩ ⟨k4.ans, k4.ansR, k4.rec_⟩
      have e5 : ended v ⟨ai, ae, as_, an, ra, rl, rc, al⟩ na new nc = ({ v with state := 2, ans := ⟨ai, ae, as_, an, na, new, nc, al⟩, session := as_ } : CV) := by
        unfold ended
        simp only [HSS.out]
      have h7 := HCP4.out.kp HK5.out (fun r hr g hg (e : g = b) => by have := (HFR.out g (.inr ⟨r, hr, hg⟩)).1; omega)
      exact ⟨rfl, na, new, nc, R4, (by rw [e5]; exact k5), HNL.out, ⟨h7.len, h7.same, fun r hr => ⟨(h7.row r hr).1, fun g hg => ⟨(HFR.out g (.inr ⟨r, hr, hg⟩)).1, ((h7.row r hr).2 g hg).2⟩⟩⟩, HK4.out.trans HK5.out, HRR4.out⟩
    · have heb : (ae == 0) = false := by simpa using he0
      have HSS := Lib.hid (show (if v.ord.kind = 1 ∧ ae = 0 then as_ else v.session) = v.session from if_neg (fun h => he0 h.2))
      clear hk he0
      go_wp2_with fail
      go_ret
      have e5 : ended v ⟨ai, ae, as_, an, ra, rl, rc, al⟩ na new nc = ({ v with state := 2, ans := ⟨ai, ae, as_, an, na, new, nc, al⟩, session := v.session } : CV) := by
        unfold ended
        simp only [HSS.out]
      exact ⟨rfl, na, new, nc, R4, (by rw [e5]; exact K4.out), HNL.out, ⟨HCP4.out.len, HCP4.out.same, fun r hr => ⟨(HCP4.out.row r hr).1, fun g hg => ⟨(HFR.out g (.inr ⟨r, hr, hg⟩)).1, ((HCP4.out.row r hr).2 g hg).2⟩⟩⟩, HK4.out, HRR4.out⟩
  · have hkb : (v.ord.kind == 1) = false := by simpa using hk
    have HSS := Lib.hid (show (if v.ord.kind = 1 ∧ ae = 0 then as_ else v.session) = v.session from if_neg (fun h => hk h.1))
    clear hk
    go_wp2_with fail
    go_ret
    have e5 : ended v ⟨ai, ae, as_, an, ra, rl, rc, al⟩ na new nc = ({ v with state := 2, ans := ⟨ai, ae, as_, an, na, new, nc, al⟩, session := v.session } : CV) := by
      unfold ended
      simp only [HSS.out]
    exact ⟨rfl, na, new, nc, R4, (by rw [e5]; exact K4.out), HNL.out, ⟨HCP4.out.len, HCP4.out.same, fun r hr => ⟨(HCP4.out.row r hr).1, fun g hg => ⟨(HFR.out g (.inr ⟨r, hr, hg⟩)).1, ((HCP4.out.row r hr).2 g hg).2⟩⟩⟩, HK4.out, HRR4.out⟩
end Go.Proofs.Ytjhefbkigmamfaa
