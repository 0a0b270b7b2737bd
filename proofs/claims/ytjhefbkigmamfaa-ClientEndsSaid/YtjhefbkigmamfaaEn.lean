/-
  ClientEnds: for every list of answers and every two ints the law returns true and leaves its arguments as they were. No condition.
-/
import Derived.Test.YtjhefbkigmamfaaEw
import Derived.Test.YtjhefbkigmamfaaIl
import Derived.Test.YtjhefbkigmamfaaFin
import Derived.LoopN
import Derived.Deep.RegionHeld3
namespace Go.Proofs.Ytjhefbkigmamfaa.clientEnds
open Go.ChangeShapes Go.WideShapes Go.ChangeAt Go.RowKit
set_option linter.unusedVariables false

/-- Refusals and waits. -/
def rv (k : Nat) : Int := [30, 42, 37, 31, 32, 7].getD k 0
theorem rv_is (k : Nat) (h : k < 6) : rv k = 30 ∨ rv k = 42 ∨ rv k = 37 ∨ rv k = 31 ∨ rv k = 32 ∨ rv k = 7 := by
  unfold rv
  match k, h with
  | 0, _ => simp
  | 1, _ => simp
  | 2, _ => simp
  | 3, _ => simp
  | 4, _ => simp
  | 5, _ => simp
def RC : Array Value := #[.int .i64 30, .int .i64 42, .int .i64 37, .int .i64 31, .int .i64 32, .int .i64 7]
theorem rc_get (k : Nat) (h : k < 6) : RC[k]? = some (.int .i64 (rv k)) := by
  unfold rv RC
  match k, h with
  | 0, _ => rfl
  | 1, _ => rfl
  | 2, _ => rfl
  | 3, _ => rfl
  | 4, _ => rfl
  | 5, _ => rfl

theorem row_keep {W w : World} {a : Option Addr} {vs : List Value} (h : Row W a vs) (hk : Kp (fun j => W.heap.size ≤ j) W w) : Row w a vs := by
  intro i v hv
  obtain ⟨b, off, rfl, hc⟩ := h i v hv
  have hb : b < W.heap.size := World.block_lt_of_cell? (a := ⟨b, off + i, none⟩) W hc
  exact ⟨b, off, rfl, (hk.cell (p := ⟨b, off + i, none⟩) hb (fun e => by have : W.heap.size ≤ b := e; omega)).trans hc⟩
theorem base_owns {w : World} {B B' : Nat} {e : TypeId} {size : Nat} {a : Option Addr} {n cap : Nat} {xs : List Value} (h : Owns w B e size a n cap xs) (hB : B' ≤ B) : Owns w B' e size a n cap xs := by
  refine ⟨h.1, ?_⟩
  rcases h.2 with h | ⟨g, cap', cur, hv, hge, r⟩
  · exact .inl h
  · exact .inr ⟨g, cap', cur, hv, by omega, r⟩
theorem base_ew {w : World} {B B' b : Nat} {N : Nat → Prop} {T : Nat} {t : Int} (h : EW w B b N T t) (hB : B' ≤ B) : EW w B' b N T t := by
  obtain ⟨R, v, k, r⟩ := h
  exact ⟨R, v, ⟨k.blk, by have := k.ge; omega, k.srv, k.srvR, k.one, k.seven, k.rs, k.at_, k.id1, k.id2, k.pat1, k.pat2, k.ord, k.ordR, k.ordL, k.ans, k.ansR, k.rec_, base_owns k.own hB, k.dat, k.dis, fun j hj => ⟨by have := (k.lt j hj).1; omega, (k.lt j hj).2⟩⟩, r⟩
theorem num_same (w : World) (e : Int) : Calls Try.prog 10 #[.int .i64 e] w fun r w' => r = .returned (.int .i64 e) ∧ w = w' := Calls.mono (num_any w e) fun _ _ ⟨h1, h2⟩ => ⟨h1, h2.symm⟩
theorem lit3 (w : World) : Row (w.alloc (.cells #[.int .i64 1, .int .i64 3, .int .i64 5] 3)) (some ⟨w.heap.size, 0, none⟩) (ints [1, 3, 5]) := by
  intro i v hv
  refine ⟨w.heap.size, 0, rfl, ?_⟩
  rw [Nat.zero_add]
  exact cell_of (heap_new w _) i (by simpa [ints] using hv)
theorem keep_new {W w : World} {B N : Nat} (h : Kp (fun j => B ≤ j) W w) {S : Nat → Prop} {w' : World} (hk : Kp S w w') (hs : ∀ j, S j → B ≤ j) : Kp (fun j => B ≤ j) W w' := h.trans (hk.mono (fun j _ h => hs j h))

set_option maxRecDepth 100000 in
set_option maxHeartbeats 4000000 in
theorem walk (a : Option Addr) (zs : List Int) (c : Nat) (e0 nn : Int) (W : World) (hr : Row W a (ints zs)) (hm : zs.length ≤ 17592186043904) :
    Calls Try.prog 5 #[.slice a zs.length c, .int .i64 e0, .int .i64 nn] W fun e w' => e = .returned (.bool true) ∧ Below W.heap.size W w' := by
  obtain ⟨B, hB⟩ : ∃ B, B = W.heap.size := ⟨_, rfl⟩
  have HB := Lib.hid hB
  have HR := Lib.hid hr
  have HM := Lib.hid hm
  rw [← hB]
  clear hB hr hm
  go_enter Try.func5, Try.ntmps5
  go_upto_region 1 with fail
  go_wp2_with fail
  refine (new_good (lit3 W) ⟨by decide, by decide, by decide, by decide, by decide⟩).mono ?_
  rintro e w1 ⟨R, b, sa, sc, rfl, k1, hk1⟩
  have K1 := Lib.hid k1
  have HK1 := Lib.hid (show Kp (fun j => B ≤ j) W w1 from (((Kp.refl (fun _ => False) W).alloc _).trans hk1).no)
  have hB1 : B ≤ (W.alloc (.cells #[.int .i64 1, .int .i64 3, .int .i64 5] 3)).heap.size := by rw [HB.out]; simp
  clear k1 hk1
  generalize (W.alloc (.cells #[.int .i64 1, .int .i64 3, .int .i64 5] 3)).heap.size = B1 at K1 hB1
  go_wp2_with (first | (go_at_call 10; refine (num_any _ _).mono ?_; rintro e w' ⟨rfl, rfl⟩))
  refine (open_ew K1.out).mono ?_
  rintro e w2 ⟨rfl, ⟨t2, h2⟩, hk2⟩
  have H2 := Lib.hid h2
  have HK2 := Lib.hid (HK1.out.trans (hk2.mono (fun j _ (e : j = b) => by rw [e]; exact Nat.le_trans hB1 K1.out.ge)))
  clear h2 hk2 HK1
  go_wp2_with (first | (go_at_call 10; refine (num_any _ _).mono ?_; rintro e w' ⟨rfl, rfl⟩) | (go_at_call 11; refine (knows_any _).mono ?_; rintro e w3 ⟨rfl, hk3⟩))
  have h4 : EW (w3.alloc (.cells RC 3)) B b (fun j => j = w3.heap.size) 1 t2 := (((base_ew H2.out hB1).no hk3).other (N' := fun j => j = w3.heap.size) (fun j e => .inr (Nat.le_of_eq e.symm))).no ((Kp.refl _ _).alloc _)
  have hG := heap_new w3 (.cells RC 3)
  have hk4 : Kp (fun j => B ≤ j) W (w3.alloc (.cells RC 3)) := (HK2.out.trans hk3.no).alloc _
  have hGB : B ≤ w3.heap.size := by have := (base_ew H2.out hB1).lt; have := hk3.size; omega
  show Code.wp Try.prog _ _ _ (w3.alloc (.cells RC 3))
  have H4 := Lib.hid h4
  have HG := Lib.hid hG
  have HK4 := Lib.hid hk4
  clear h4 hG hk4 hk3 H2 HK2 K1 hB1
  generalize w3.alloc (.cells RC 3) = w4 at H4 HG HK4 ⊢
  generalize w3.heap.size = G at H4 HG hGB ⊢
  go_loopw [10] (fun q wr => ∃ (i : Nat) (t : Int), q = .int .i64 i ∧ i ≤ zs.length ∧ i ≤ 50 ∧ EW wr B b (fun j => j = G) (1 + 2 * i) t ∧ wr.heap[G]? = some (.cells RC 3 (0, 0)) ∧ Kp (fun j => B ≤ j) W wr) (fun q _ => 50 - (intOf q).toNat)
  case atStart => exact ⟨0, t2, rfl, Nat.zero_le _, Nat.zero_le _, H4.out, HG.out, HK4.out⟩
  case round =>
    clear H4 HG HK4
    obtain ⟨i, t, rfl, hi, hi50, h, hG, hK⟩ := hrel
    have H := Lib.hid h
    have HG := Lib.hid hG
    have HK := Lib.hid hK
    have hGw := lt_of_block hG
    clear h hG hK
    by_cases hlt : i < zs.length ∧ i < 50
    · obtain ⟨hlt1, hlt2⟩ := hlt
      have i1 : (i : Int) < (zs.length : Int) := by omega
      have i2 : (i : Int) < 50 := by omega
      have i0 : (0 : Int) ≤ (i : Int) := by omega
      obtain ⟨rb, ro, ra, rc⟩ := Row.int (row_keep HR.out (HB.out ▸ HK.out)) hlt1
      subst ra
      have hrb : rb < B := by
        obtain ⟨rb', ro', hra', rc'⟩ := Row.int HR.out hlt1
        simp only [Option.some.injEq, Addr.mk.injEq, and_true] at hra'
        rw [HB.out, hra'.1]
        exact World.block_lt_of_cell? (a := ⟨rb', ro' + i, none⟩) W rc'
      have w6 := md_in (zs.getD i 0) 6 (by omega) (by omega)
      have l6 := md_lo (zs.getD i 0) 6 (by omega)
      have h6 := md_hi (zs.getD i 0) 6 (by omega)
      unfold md at l6 h6
      generalize zs.getD i 0 = z at rc w6 l6 h6
      have L6 := Lib.hid l6
      have H6 := Lib.hid h6
      clear l6 h6
      go_upto_region 9 with fail
      obtain ⟨k, hk⟩ : ∃ k : Nat, (z.tmod 6 + 6).tmod 6 = (k : Int) := ⟨((z.tmod 6 + 6).tmod 6).toNat, by have := L6.out; omega⟩
      have k6 : k < 6 := by have := H6.out; omega
      rw [hk]
      have kI : (k : Int) < 6 := by omega
      have k0 : (0 : Int) ≤ (k : Int) := by omega
      have d0 : wr.cell? ⟨G, k, none⟩ = some (.int .i64 (rv k)) := cell_of HG.out k (rc_get k k6)
      have hb0 := H.out.lt
      have ht := H.out.tr
      have wt : IntKind.i64.wrap (4000000 + t) = 4000000 + t := IntWalk.i64_in _ (by omega)
      have RV := Lib.hid (rv_is k k6)
      obtain ⟨r, hr⟩ : ∃ r, r = rv k := ⟨_, rfl⟩
      rw [← hr] at d0 RV
      clear w6 L6 H6 hk hr
      have HT := Lib.hid ht
      clear ht
      go_region_held3 (fun w' => w'.cell? ⟨G, k, none⟩ = some (.int .i64 r) ∧ w'.cell? ⟨rb, ro + i, none⟩ = some (.int .i64 z)) (exact ⟨d0, rc⟩) (first | (go_at_call 16; refine (tries_ew (H.out.no ((Kp.refl _ _).drew))).mono ?_; rintro e w5 ⟨rfl, rfl⟩) | (go_at_call 15; refine (heard_ew (H.out.no ((Kp.refl _ _).drew)) (by omega) (fun j (e : j = G) => by rw [e]; exact hGw) r z RV.out).mono ?_; rintro e w6 ⟨rfl, ⟨t6, h6⟩, hk6⟩; have H6 := Lib.hid h6; have HK6 := Lib.hid (HK.out.drew.trans (hk6.mono (fun j _ h => h.1))); have HG6 := Lib.hid (hk6.heap (by exact HG.out) (fun h => h.2 rfl)); have d0 : w6.cell? ⟨G, k, none⟩ = some (.int .i64 r) := (hk6.cell (p := ⟨G, k, none⟩) (by exact hGw) (fun h => h.2 rfl)).trans d0; have rc : w6.cell? ⟨rb, ro + i, none⟩ = some (.int .i64 z) := (hk6.cell (p := ⟨rb, ro + i, none⟩) (by show rb < wr.heap.size; omega) (fun h => by have : B ≤ rb := h.1; omega)).trans rc; clear h6 hk6) | (go_at_call 10; refine (num_same _ _).mono ?_; rintro e w7 ⟨rfl, rfl⟩) | (go_at_call 17; refine (busy_ew H6.out).mono ?_; rintro e w8 ⟨rfl, rfl⟩))
      have hs6 := lt_of_block HG6.out
      clear d0 rc H HG HK hGw
      go_wp2_with fail
      refine (tick_ew H6.out (by omega) (fun j (e : j = G) => by rw [e]; exact hs6)).mono ?_
      rintro e w7 ⟨rfl, ⟨t7, h7⟩, hk7⟩
      have H7 := Lib.hid h7
      have HK7 := Lib.hid (HK6.out.trans (hk7.mono (fun j _ h => h.1)))
      have HG7 := Lib.hid (hk7.heap HG6.out (fun h => h.2 rfl))
      clear h7 hk7 H6 HK6 HG6
      go_wp2_with fail
      refine (done_ew H7.out).mono ?_
      rintro e w8 ⟨rfl, h8, hk8⟩
      have HK8 := Lib.hid (HK7.out.trans hk8.no)
      have HG8 := Lib.hid (hk8.heap HG7.out (fun h => h))
      have H8 := Lib.hid h8
      clear h8 hk8 H7 HK7 HG7
      go_wp2_with fail
      go_roundw
      case rel =>
        have hka := Kp.refl (fun _ => False) w8
        exact ⟨i + 1, t7, by go_num, by omega, by omega, by rw [show 1 + 2 * (i + 1) = 1 + 2 * i + 1 + 1 by omega]; exact H8.out.no ((hka.alloc _).alloc _), heap_old _ (heap_old _ HG8.out), (HK8.out.alloc _).alloc _⟩
      case measure => simp [intOf]; omega
    · have w256 := md_in e0 256 (by omega) (by omega)
      have l256 := md_lo e0 256 (by omega)
      have h256 := md_hi e0 256 (by omega)
      unfold md at l256 h256
      have hor : ¬ ((i : Int) < (zs.length : Int)) ∨ ((i : Int) < (zs.length : Int) ∧ ¬ (i : Int) < 50) := by omega
      have ht := H.out.tr
      have wt : IntKind.i64.wrap (4000000 + t) = 4000000 + t := IntWalk.i64_in _ (by omega)
      have wt1 : IntKind.i64.wrap (4000000 + t - 1) = 4000000 + t - 1 := IntWalk.i64_in _ (by omega)
      have HI50 := Lib.hid hi50
      obtain ⟨x0, hx0⟩ : ∃ x0, x0 = (e0.tmod 256 + 256).tmod 256 := ⟨_, rfl⟩
      clear ht hlt hi hi50
      rcases hor with hx | ⟨hx, hy⟩
      all_goals
        (go_upto_region 16 with fail
         rw [← hx0]
         clear hx0 w256 l256 h256
         go_wp2_with fail
         go_loopw [1, 15] (fun q p w' => ∃ (j : Nat) (x : Int), q = .int .i64 x ∧ p = .int .i64 j ∧ j ≤ 6 ∧ (∀ m, m < j → x ≠ rv m) ∧ wr = w') (fun _ p _ => 6 - (intOf p).toNat)
         case atStart => exact ⟨0, x0, rfl, rfl, Nat.zero_le _, fun m h => absurd h (Nat.not_lt_zero m), rfl⟩
         case round =>
           obtain ⟨j, x, rfl, rfl, hj, hxj, rfl⟩ := hrel
           have HX := Lib.hid hxj
           clear hxj
           by_cases hjl : j < 6
           · have j1 : (j : Int) < 6 := by omega
             have j0 : (0 : Int) ≤ (j : Int) := by omega
             have d := cell_of HG.out j (rc_get j hjl)
             have RJ := Lib.hid (rv_is j hjl)
             obtain ⟨y, hy⟩ : ∃ y, y = rv j := ⟨_, rfl⟩
             rw [← hy] at d
             have HY := Lib.hid hy
             clear hy
             by_cases hxe : x = y
             · subst hxe
               clear hj hjl
               go_wp2_with fail
               go_roundw
               case rel => exact ⟨j + 1, 0, rfl, by go_num, by omega, fun m hm => by have := rv_is m (by omega); omega, by trivial⟩
               case measure => simp [intOf]; omega
             · have hb : (x == y) = false := by simpa using hxe
               have HXE := Lib.hid hxe
               clear hxe hj hjl
               go_wp2_with fail
               go_roundw
               case rel => exact ⟨j + 1, x, rfl, by go_num, by omega, fun m hm => by
                  by_cases e : m = j
                  · rw [e, ← HY.out]; exact HXE.out
                  · exact HX.out m (by omega), by trivial⟩
               case measure => simp [intOf]; omega
           · obtain rfl : j = 6 := by omega
             have HE := Lib.hid (show Ends x from ⟨HX.out 0 (by omega), HX.out 1 (by omega), HX.out 2 (by omega), HX.out 3 (by omega), HX.out 4 (by omega), HX.out 5 (by omega)⟩)
             clear HX hjl hj
             go_wp2_with fail
             refine (tries_ew H.out).mono ?_
             rintro e w9 ⟨rfl, rfl⟩
             go_wp2_with fail
             refine (early_ew H.out (by have := HI50.out; omega)).mono ?_
             rintro e w9 ⟨rfl, h9, hk9⟩
             have H9 := Lib.hid h9
             have HK9 := Lib.hid (HK.out.trans hk9.no)
             clear h9 hk9 H HK HG
             go_wp2_with (first | (go_at_call 10; refine (num_same _ _).mono ?_; rintro e w' ⟨rfl, rfl⟩) | (go_at_call 16; refine (tries_ew H9.out).mono ?_; rintro e w' ⟨rfl, rfl⟩))
             refine (ends_ew H9.out (by have := HI50.out; omega) x nn HE.out).mono ?_
             rintro e w10 ⟨rfl, h10, hk10⟩
             have H10 := Lib.hid h10
             have HK10 := Lib.hid (HK9.out.trans hk10)
             clear h10 hk10 H9 HK9 HE
             go_wp2_with (first | (go_at_call 10; refine (num_same _ _).mono ?_; rintro e w' ⟨rfl, rfl⟩))
             refine (done_ee H10.out).mono ?_
             rintro e w11 ⟨⟨f, xa, xl, xc, ai, as_, ra, rl, rc, al, rfl⟩, h11, hk11⟩
             have H11 := Lib.hid h11
             have HK11 := Lib.hid (HK10.out.trans hk11)
             clear h11 hk11 H10 HK10
             go_wp2_with fail
             obtain ⟨P, hP⟩ : ∃ P, P = w11.heap.size := ⟨_, rfl⟩
             have hka := ((Kp.refl (fun _ => False) w11).alloc (.cells #[.int .i64 3, .int .i64 f, .int .i64 5, .slice xa xl xc] 32)).alloc (.cells #[.int .i64 ai, .int .i64 x, .int .i64 as_, .int .i64 nn, .slice ra rl rc, .int .i64 al] 47)
             have b1 : ((w11.alloc (.cells #[.int .i64 3, .int .i64 f, .int .i64 5, .slice xa xl xc] 32)).alloc (.cells #[.int .i64 ai, .int .i64 x, .int .i64 as_, .int .i64 nn, .slice ra rl rc, .int .i64 al] 47)).heap[P]? = some (.cells #[.int .i64 3, .int .i64 f, .int .i64 5, .slice xa xl xc] 32 (0, 0)) := by rw [hP]; exact heap_old _ (heap_new _ _)
             have b2 : ((w11.alloc (.cells #[.int .i64 3, .int .i64 f, .int .i64 5, .slice xa xl xc] 32)).alloc (.cells #[.int .i64 ai, .int .i64 x, .int .i64 as_, .int .i64 nn, .slice ra rl rc, .int .i64 al] 47)).heap[P + 1]? = some (.cells #[.int .i64 ai, .int .i64 x, .int .i64 as_, .int .i64 nn, .slice ra rl rc, .int .i64 al] 47 (0, 0)) := by
               have h := heap_new (w11.alloc (.cells #[.int .i64 3, .int .i64 f, .int .i64 5, .slice xa xl xc] 32)) (.cells #[.int .i64 ai, .int .i64 x, .int .i64 as_, .int .i64 nn, .slice ra rl rc, .int .i64 al] 47)
               rw [hP]
               simpa using h
             have H12 := Lib.hid (H11.out.no hka)
             have HK12 := Lib.hid (HK11.out.trans hka.no)
             rw [← hP]
             clear hka hP H11 HK11
             generalize (w11.alloc (.cells #[.int .i64 3, .int .i64 f, .int .i64 5, .slice xa xl xc] 32)).alloc (.cells #[.int .i64 ai, .int .i64 x, .int .i64 as_, .int .i64 nn, .slice ra rl rc, .int .i64 al] 47) = w12 at H12 HK12 b1 b2 ⊢
             refine (done_ei H12.out).mono ?_
             rintro e w13 ⟨rfl, h13, hk13⟩
             have H13 := Lib.hid h13
             have HK13 := Lib.hid (HK12.out.trans hk13.no)
             have B1 := Lib.hid (hk13.heap b1 (fun h => h))
             have B2 := Lib.hid (hk13.heap b2 (fun h => h))
             clear h13 hk13 H12 HK12 b1 b2
             go_upto_region 25 with fail
             have hka := ((Kp.refl (fun _ => False) w13).alloc (.cells #[.int .i64 0, .int .i64 0, .int .i64 0, .slice none 0 0] 32)).alloc (.cells #[.int .i64 0, .int .i64 0, .int .i64 0, .int .i64 0, .slice none 0 0, .int .i64 0] 47)
             have H14 := Lib.hid (H13.out.no hka)
             have HK14 := Lib.hid (HK13.out.trans hka.no)
             have b1 := hka.heap B1.out (fun h => h)
             have b2 := hka.heap B2.out (fun h => h)
             clear hka H13 HK13 B1 B2
             generalize (w13.alloc (.cells #[.int .i64 0, .int .i64 0, .int .i64 0, .slice none 0 0] 32)).alloc (.cells #[.int .i64 0, .int .i64 0, .int .i64 0, .int .i64 0, .slice none 0 0, .int .i64 0] 47) = w14 at H14 HK14 b1 b2 ⊢
             have p0 := cell_of b1 0 (v := .int .i64 3) rfl
             have p2 := cell_of b1 2 (v := .int .i64 5) rfl
             have q1 := cell_of b2 1 (v := .int .i64 x) rfl
             have q3 := cell_of b2 3 (v := .int .i64 nn) rfl
             clear b1 b2
             go_wp2_with (first | (go_at_call 10; refine (num_same _ _).mono ?_; rintro e w' ⟨rfl, rfl⟩) | (go_at_call 17; refine (busy_ei H14.out).mono ?_; rintro e w' ⟨rfl, rfl⟩))
             refine (do_ei H14.out).mono ?_
             rintro e w15 ⟨rfl, hk15⟩
             have HK15 := Lib.hid (HK14.out.trans hk15)
             clear hk15 p0 p2 q1 q3 H14 HK14
             go_wp2_with (first | (go_at_call 10; refine (num_same _ _).mono ?_; rintro e w' ⟨rfl, rfl⟩))
             go_ret
             exact ⟨rfl, by rw [HB.out]; exact (HB.out ▸ HK15.out).belowW⟩)

set_option maxRecDepth 100000 in
theorem lifted (os : Os) (started : os.Started) (H : Type) (enc : TypeId × Value → H) :
    ReturnsInHanded {} Try.checked os 5 .any (Rows.clientEndsSpec.pre6 enc Try.prog Try.f5 Rows.clientEndsRow.domain false) (Rows.clientEndsSpec.post enc Try.prog Try.f5 false true false false) := by
  refine returnsInHanded_of_change_sized (C := Try.checked) own started (by kernel_rfl) Try.func5
    (ChangeSpec.witness6 (enc := enc) (C := Try.checked) false ⟨#[], #[.slice none 0 0, .int .i64 0, .int .i64 0], []⟩ 8 (by kernel_rfl) (by kernel_rfl) (by kernel_rfl) (by kernel_rfl)) ?_
  intro W base args ds gs before hval0 hW _ hsz _
  have hval : ∀ (j : Nat) t v, Try.f5.params[j]? = some t → args[j]? = some v → Value.okWide Try.prog W .any base t v := hval0
  have hW' := hW
  obtain ⟨p, q, hA0, hV, rfl, hfz, hnd⟩ := hW
  have hA : DataW.TrodAll enc Try.prog W 0 (fun _ => true) true Try.f5.params.toList args.toList ds p := hA0
  rw [Try.params5] at hA hval
  obtain ⟨v0, vs0, d0, ds0, p0, q0, hargs, rfl, rfl, h0, r0⟩ := trodAll_cons hA
  obtain ⟨v1, vs1, d1, ds1, p1, q1, rfl, rfl, rfl, h1, r1⟩ := trodAll_cons r0
  obtain ⟨v2, vs2, d2, ds2, p2, q2, rfl, rfl, rfl, h2, r2⟩ := trodAll_cons r1
  obtain ⟨rfl, rfl, rfl⟩ := trodAll_nil r2
  obtain rfl : args = #[v0, v1, v2] := by cases args; simp_all
  obtain ⟨rfl, rfl⟩ := trodVars_none hV
  have o0 := hval 0 22 v0 rfl rfl
  obtain ⟨x, zs, c, rfl, hX, hZ⟩ := open_il o0 h0
  have mx := il_le hsz (j := 0) rfl rfl hZ
  obtain ⟨a1, rfl, rfl, _, w1⟩ := open_int Try.underlying3 (hval 1 3 v1 rfl rfl) h1
  obtain ⟨a2, rfl, rfl, _, w2⟩ := open_int Try.underlying3 (hval 2 3 v2 rfl rfl) h2
  refine (walk x zs c a1 a2 W hX mx).mono fun e W' ⟨he, hg⟩ => ?_
  subst he
  exact ⟨_, rfl, law_post laidOut (of_decide_eq_true (by kernel_rfl)) rfl Try.underlying4 rfl ⟨rfl, rfl, rfl⟩ hW' hg⟩

theorem over : Rows.clientEndsRow.holds Try.pinned (OpenSpec.ofChange Rows.clientEndsSpec) :=
  OpenClaim.holds_of_wide 5 Try.f5 rfl rfl rfl rfl rfl rfl rfl ⟨rfl, rfl, rfl, rfl, rfl⟩ rfl rfl rfl rfl rfl (by kernel_rfl) Try.func5 (by kernel_rfl)
    (of_decide_eq_true (by kernel_rfl)) (by unfold Func.isWrapper; first | (rw [if_pos (by decide +kernel)]; kernel_rfl) | (rw [if_neg (by decide +kernel)]; exact ⟨rfl, rfl⟩))
    (fun os started H enc _ => lifted os started H enc)

theorem proved : Rows.ClientEndsSaid :=
  over
#print axioms proved
end Go.Proofs.Ytjhefbkigmamfaa.clientEnds
