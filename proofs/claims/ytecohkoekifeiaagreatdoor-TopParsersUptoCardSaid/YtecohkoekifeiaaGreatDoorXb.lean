/-
  Concat, Backward and Number, each walked once.
-/
import Derived.Test.YtecohkoekifeiaaGreatDoorXa
import Derived.Lib.AppendZeros
import Derived.RangeFuncNested
import Derived.RangeFuncBound
import Derived.RangeFuncCalls
import Derived.RangeFuncLeaves
import Derived.RangeFuncBox
import Derived.RangeFuncWrites
import Derived.Shelf.Abstract
import Derived.OwnWalkIn
import Derived.TacticsInMore
import Derived.LoopNIn
import Derived.LoopIn
set_option linter.all false
namespace Go.Proofs.YtecohkoekifeiaaGreatDoor
open Go.ChangeShapes Go.WideShapes Go.ChangeAt Go.RowKit
set_option linter.unusedVariables false

/-- A part: where it lies, its bytes. -/
structure Pt where
  a : Option Addr
  d : List Int
  c : Nat
def Pt.val (p : Pt) : Value := .slice p.a p.d.length p.c
def flat (l : List Pt) : List Int := l.flatMap Pt.d

set_option maxRecDepth 100000 in
set_option maxHeartbeats 4000000 in
theorem grow_any (w : World) (n : Nat) (hn : n ≤ 140737488355328) :
    Calls Tryz.prog 61 #[.slice none 0 0, .int .i64 n] w fun e w' => ∃ o co, e = .returned (.slice o 0 co) ∧ Owns w' w.heap.size 5 1 o 0 co [] ∧ Kp (fun _ => False) w w' := by
  have h0 : ¬ ((n : Int) < 0) := by omega
  by_cases hz : n = 0
  · subst hz
    go_enter Tryz.func61, Tryz.ntmps61
    go_wp2
    go_ret
    exact ⟨none, 0, rfl, Owns.nil _ _ _ _, Kp.refl _ _⟩
  · have hp : (0 : Int) < (n : Int) := by omega
    obtain ⟨i0, hi, hz0, hz1, hz2⟩ := info_parts info5
    have happ := Lib.run_append_nil_zeros (P := Tryz.prog) w 22 3 22 5 i0 (.int .u8 0) .i64 .i64 Tryz.underlying22 Tryz.underlying3 hi hz0 n (by omega) (by omega) (by omega) (by rw [hz2]; omega)
    have hcapge : n ≤ grownCap w n 0 5 := grownCap_ge w _ 0 5
    have hcaple : grownCap w n 0 5 ≤ maxLen := grownCap_le_maxLen w _ 0 5 (by unfold maxLen; omega)
    generalize grownCap w n 0 5 = cap2 at happ hcapge hcaple
    generalize hZ : (Builtin.zeroCells (Value.int .u8 0).cells n ++ Builtin.zeroCells (Value.int .u8 0).cells (cap2 - n)) = Z at happ
    have hZs : Z.size = cap2 := by rw [← hZ]; simp [size_zeroCells, Value.cells]; omega
    clear hZ
    go_enter Tryz.func61, Tryz.ntmps61
    go_wp2_with (at_builtin; refine Lib.wpList_append_run _ rfl _ _ _ _ rfl _ _ rfl rfl _ _ happ ?_)
    go_ret
    refine ⟨some ⟨w.heap.size, 0, none⟩, cap2, rfl, ⟨by simp, .inr ⟨w.heap.size, cap2, Z, rfl, Nat.le_refl _, heap_new _ _, by omega, hcaple, by simpa using hZs, by simp⟩⟩, ((Kp.refl _ _).drew).alloc _⟩

theorem flat_take (l : List Pt) (k : Nat) (h : k < l.length) : flat (l.take (k + 1)) = flat (l.take k) ++ (l.getD k ⟨none, [], 0⟩).d := by
  unfold flat
  rw [List.take_succ_eq_append_getElem h, List.flatMap_append]
  simp [List.getD, h]
theorem flat_take_len (l : List Pt) (k : Nat) : (flat (l.take k)).length ≤ (flat l).length := by
  unfold flat
  conv => rhs; rw [← List.take_append_drop k l, List.flatMap_append]
  simp

/-- The parts, in memory. -/
structure Pts (w : World) (p : Option Addr) (l : List Pt) : Prop where
  row : Row w p (l.map Pt.val)
  each : ∀ r ∈ l, Row w r.a (bytes r.d)
theorem Pts.no {w w' : World} {p : Option Addr} {l : List Pt} (h : Pts w p l) (k : Kp (fun _ => False) w w') : Pts w' p l := ⟨h.row.no k, fun r hr => (h.each r hr).no k⟩
theorem Pts.at_ {w : World} {p : Option Addr} {l : List Pt} (h : Pts w p l) {k : Nat} (hk : k < l.length) : ∃ b off, p = some ⟨b, off, none⟩ ∧ w.cell? ⟨b, off + k, none⟩ = some (l.getD k ⟨none, [], 0⟩).val ∧ Row w (l.getD k ⟨none, [], 0⟩).a (bytes (l.getD k ⟨none, [], 0⟩).d) := by
  obtain ⟨b, off, e, hc⟩ := h.row k (l.getD k ⟨none, [], 0⟩).val (by simp [List.getD, hk])
  exact ⟨b, off, e, hc, h.each _ (by simp [List.getD, hk])⟩

set_option maxRecDepth 100000 in
set_option maxHeartbeats 4000000 in
theorem concat_any {w : World} {p : Option Addr} {l : List Pt} (hP : Pts w p l) (hm : (flat l).length ≤ 140737488355328) (hl : l.length ≤ 1000) (cp : Nat) :
    Calls Tryz.prog 49 #[.slice p l.length cp] w fun e w' => ∃ o co, e = .returned (.slice o (flat l).length co) ∧ Owns w' w.heap.size 5 1 o (flat l).length co (bytes (flat l)) ∧ Kp (fun _ => False) w w' := by
  have HP := Lib.hid hP
  clear hP
  go_enter Tryz.func49, Tryz.ntmps49
  go_wp2_with fail
  go_loopw [3, 11] (fun s i wr => ∃ k : Nat, i = .int .i64 k ∧ k ≤ l.length ∧ s = .int .i64 ((flat (l.take k)).length : Nat) ∧ wr = w) (fun _ i _ => l.length - (intOf i).toNat)
  case atStart => exact ⟨0, rfl, Nat.zero_le _, by simp [flat], rfl⟩
  case round =>
    obtain ⟨k, rfl, hk, rfl, hwr⟩ := hrel
    subst wr
    by_cases hlt : k < l.length
    · obtain ⟨b, off, rfl, hc, _⟩ := HP.out.at_ hlt
      have hft := flat_take l k hlt
      have hfl := flat_take_len l (k + 1)
      rw [hft] at hfl
      generalize l.getD k ⟨none, [], 0⟩ = r at hc hft hfl
      obtain ⟨ra, rd, rc⟩ := r
      unfold Pt.val at hc
      dsimp only at hc hft hfl
      have hkI : (k : Int) < (l.length : Int) := by omega
      have hk0 : (0 : Int) ≤ (k : Int) := by omega
      rw [List.length_append] at hfl
      have hlen : (flat (l.take (k + 1))).length = (flat (l.take k)).length + rd.length := by rw [hft, List.length_append]
      have HT := Lib.hid hlen
      clear hft hlen
      generalize (flat (l.take k)).length = A at hfl HT ⊢
      have hneg : ¬ ((A : Int) + (rd.length : Int) < 0) := by omega
      go_wp2_with fail
      go_roundw
      case rel => exact ⟨k + 1, by go_num, by omega, by rw [HT.out]; simp, trivial⟩
      case measure => simp [intOf]; omega
    · obtain rfl : k = l.length := by omega
      rw [List.take_length]
      have HG := Lib.hid (grow_any w (flat l).length hm)
      go_wp2_with (go_at_call 61; refine (HG.out).mono ?_; rintro e w1 ⟨o1, co1, rfl, ho1, hk1⟩; have HO1 := Lib.hid ho1; have HK1 := Lib.hid hk1; clear ho1 hk1)
      go_loopw [6, 27] (fun o i w2 => ∃ (k : Nat) (oa : Option Addr) (co : Nat), i = .int .i64 k ∧ k ≤ l.length ∧ o = .slice oa (flat (l.take k)).length co ∧ Owns w2 w.heap.size 5 1 oa (flat (l.take k)).length co (bytes (flat (l.take k))) ∧ Kp (fun _ => False) w w2) (fun _ i _ => l.length - (intOf i).toNat)
      case atStart => exact ⟨0, o1, co1, rfl, Nat.zero_le _, by simp [flat], by simpa [flat, bytes] using HO1.out, HK1.out⟩
      case round =>
        obtain ⟨k, oa, co, rfl, hk2, rfl, ho, hK⟩ := hrel
        by_cases hlt2 : k < l.length
        · obtain ⟨b, off, rfl, hc, hrw⟩ := (HP.out.no hK).at_ hlt2
          have hft := flat_take l k hlt2
          have hfl := flat_take_len l (k + 1)
          rw [hft] at hfl
          generalize l.getD k ⟨none, [], 0⟩ = r at hc hft hfl hrw
          obtain ⟨ra, rd, rc⟩ := r
          unfold Pt.val at hc
          dsimp only at hc hft hfl hrw
          have hkI : (k : Int) < (l.length : Int) := by omega
          have hk0 : (0 : Int) ≤ (k : Int) := by omega
          rw [List.length_append] at hfl
          have HF := Lib.hid hft
          clear hft
          generalize flat (l.take k) = A at hfl HF ho ⊢
          go_wp2_with (at_builtin; refine Stop.mk ?_)
          unfold Stop
          refine wpList_app rfl _ _ 22 rfl w.heap.size 5 info5 Tryz.underlying22 rfl (by decide) rfl ho rfl (news := bytes rd) (by simp [bytes]) hrw.news (one_bytes _) (by unfold maxLen; omega) (by omega) hK.size ?_
          intro a' cap' w3 ho3 hk3
          have hK3 : Kp (fun _ => False) w w3 := hK.andThen hk3 (fun i hi e => by have := (Owns.from ho e.symm).1; omega)
          rw [show bytes A ++ bytes rd = bytes (A ++ rd) by simp [bytes], show A.length + rd.length = (A ++ rd).length by simp] at ho3
          rw [show A.length + rd.length = (A ++ rd).length by simp]
          rw [← HF.out] at ho3 ⊢
          have HO := Lib.hid ho3
          have HK := Lib.hid hK3
          clear hk3 ho hK ho3 hK3 hc hrw
          go_wp2
          go_roundw
          case rel => exact ⟨k + 1, a', cap', by go_num, by omega, rfl, HO.out, HK.out⟩
          case measure => simp [intOf]; omega
        · obtain rfl : k = l.length := by omega
          rw [List.take_length] at ho
          have HO := Lib.hid ho
          have HK := Lib.hid hK
          clear ho hK
          go_wp2_with fail
          go_ret
          exact ⟨oa, co, by first | rfl | simp, HO.out, HK.out⟩
end Go.Proofs.YtecohkoekifeiaaGreatDoor
namespace Go.Proofs.YtecohkoekifeiaaGreatDoor
open Go.RowKit Go.Shelf
set_option linter.unusedVariables false
attribute [local go_sem] Oper.semAt_some

/-- What has come when k rounds are over. -/
def upto {α : Type} (f : Nat → α) (k : Nat) : List α := (List.range k).map f
theorem upto_succ {α : Type} (f : Nat → α) (k : Nat) : upto f (k + 1) = upto f k ++ [f k] := by simp [upto, List.range_succ]
theorem upto_length {α : Type} (f : Nat → α) (k : Nat) : (upto f k).length = k := by simp [upto]
/-- Backward: the k-th that comes. -/
def bk (zs : List Int) (len k : Nat) : Nat × Int := (len - 1 - k, zs[len - 1 - k]?.getD 0)

/-- Two blocks lie as they lay. -/
def KB (g b : Nat) (A B : World) : Prop := B.heap[g]? = A.heap[g]? ∧ B.heap[b]? = A.heap[b]?
theorem KB.refl (g b : Nat) (A : World) : KB g b A A := ⟨rfl, rfl⟩
theorem KB.trans {g b : Nat} {A B C : World} (h : KB g b A B) (k : KB g b B C) : KB g b A C := ⟨k.1.trans h.1, k.2.trans h.2⟩
theorem KB.put {g b : Nat} {w : World} (hg : g < w.heap.size) (hb : b < w.heap.size) (W : World) (l : Nat) (o o' : Obj) (hl : w.heap.size ≤ l) (_ : W.heap[l]? = some o) (_ : o.isCells = false) (_ : o.isWalk = false) : KB g b W (W.putObj l o') :=
  ⟨by simp only [World.putObj]; rw [Array.getElem?_setIfInBounds_ne (by omega)], by simp only [World.putObj]; rw [Array.getElem?_setIfInBounds_ne (by omega)]⟩
theorem KB.kp {g b : Nat} {A B : World} {S : Nat → Prop} (h : Kp S A B) (hg : g < A.heap.size) (hb : b < A.heap.size) (h1 : ¬ S g) (h2 : ¬ S b) : KB g b A B := ⟨h.block g hg h1, h.block b hb h2⟩

set_option maxRecDepth 100000 in
set_option maxHeartbeats 2000000 in
theorem backward1_in (F : Fence) (n : Nat) (h60 : F.fn 60) (hro : F.round = none) (hn : 1 ≤ n) (l Bs b off len cap : Nat) (zs : List Int) (hreach : len ≤ 140737488351232) (J Jx : List (Nat × Int) → World → Prop)
    (hY : ∀ pre x W, J pre W → pre.length < len → YieldAt F (n - 1) Tryz.prog l #[.int .i64 (x.1 : Int), .int .u8 x.2] W fun e W' =>
      (e = .returned (.bool true) ∧ J (pre ++ [x]) W' ∧ KB b Bs W W') ∨ (e = .returned (.bool false) ∧ Jx (pre ++ [x]) W'))
    (W : World) (hcs : W.cell? ⟨Bs, 0, none⟩ = some (.slice (some ⟨b, off, none⟩) len cap)) (hc : ∀ j, j < len → W.cell? ⟨b, off + j, none⟩ = some (.int .u8 (zs[j]?.getD 0))) (h0 : J [] W) :
    CallsIn F n Tryz.prog 60 #[.func (.yield l) #[] #[], .pointer (some ⟨Bs, 0, none⟩)] W fun e W' => (∃ v, e = .returned v) ∧
      ((∃ ys, ys = upto (bk zs len) len ∧ J ys W') ∨ (∃ pre, (∃ k, k ≤ len ∧ pre = upto (bk zs len) k) ∧ Jx pre W')) := by
  refine callsIn_of_wp Tryz.func60 rfl h60 ?_ hro
  simp only [Tryz.ntmps60, List.size_toArray, List.length_cons, List.length_nil, Nat.reduceAdd, Nat.reduceSub, Array.replicate_succ, Array.replicate_zero, List.push_toArray, List.append_toArray, List.nil_append, List.cons_append]
  gi_wp2
  gi_loopw [3] (fun i wr => ((∃ k m : Nat, k + m + 1 = len ∧ i = .int .i64 m ∧ J (upto (bk zs len) k) wr) ∨ (i = .int .i64 (-1) ∧ J (upto (bk zs len) len) wr)) ∧ KB b Bs W wr)
    (fun i _ => (intOf i + 1).toNat)
  case atStart => 
    refine ⟨?_, KB.refl _ _ _⟩
    by_cases hlen : len = 0
    · subst hlen
      exact .inr ⟨by simp, h0⟩
    · have e2 : (len : Int) - 1 = ((len - 1 : Nat) : Int) := by omega
      exact .inl ⟨0, len - 1, by omega, congrArg _ e2, h0⟩
  case round =>
    obtain ⟨hh, hnx⟩ := hrel
    have hcs' := (World.cell?_of_block (w := W) (a := ⟨Bs, 0, none⟩) hnx.2).trans hcs
    rcases hh with ⟨k, m, hk, rfl, hJs⟩ | ⟨rfl, hJs⟩
    · have hcx : wr.cell? ⟨b, off + m, none⟩ = some (.int .u8 (zs[m]?.getD 0)) := (World.cell?_of_block (w := W) (a := ⟨b, off + m, none⟩) hnx.1).trans (hc m (by omega))
      obtain ⟨fn, tmps, assign, body, hy, hR⟩ := hY _ (m, zs[m]?.getD 0) wr hJs (by rw [upto_length]; omega)
      dsimp only at hy
      have hmI : (m : Int) < (len : Int) := by omega
      have hm0 : (0 : Int) ≤ (m : Int) := by omega
      have hbk : bk zs len k = (m, zs[m]?.getD 0) := by unfold bk; rw [show len - 1 - k = m by omega]
      have hup : upto (bk zs len) (k + 1) = upto (bk zs len) k ++ [(m, zs[m]?.getD 0)] := by rw [upto_succ, hbk]
      gi_wp2
      refine hR.mono ?_
      rintro e W3 (⟨rfl, hJ3, hk3⟩ | ⟨rfl, hJx3⟩)
      · gi_wp2
        go_roundw
        case rel => 
          refine ⟨?_, hnx.trans hk3⟩
          by_cases hm1 : m = 0
          · subst hm1
            refine .inr ⟨by simp, ?_⟩
            rw [show len = k + 1 by omega] at hup hJ3 ⊢
            rw [hup]; exact hJ3
          · have e1 : k + 1 + (m - 1) + 1 = len := by omega
            have e2 : (m : Int) - 1 = ((m - 1 : Nat) : Int) := by omega
            exact .inl ⟨k + 1, m - 1, e1, congrArg _ e2, by rw [hup]; exact hJ3⟩
        case measure => first | (simp [intOf]; done) | (simp [intOf]; omega)
      · gi_wp2
        refine bodyPost_ret (results_none rfl _ _ _) rfl ?_
        exact ⟨⟨_, rfl⟩, .inr ⟨_, ⟨k + 1, by omega, hup.symm⟩, hJx3⟩⟩
    · gi_wp2
      go_end0
      exact ⟨⟨_, rfl⟩, .inl ⟨_, rfl, hJs⟩⟩

set_option maxHeartbeats 1000000 in
theorem backward_in (F : Fence) (n : Nat) (h48 : F.fn 48) (hro : F.round = none) (a : Option Addr) (len cap : Nat) (w : World) :
    CallsIn F n Tryz.prog 48 #[.slice a len cap] w fun e w' => e = .returned (.func (.func 60) #[] #[.pointer (some ⟨w.heap.size, 0, none⟩)]) ∧ w' = w.alloc (.cells #[.slice a len cap] 22) := by
  refine callsIn_of_wp Tryz.func48 rfl h48 ?_ hro
  simp only [Tryz.ntmps48, List.size_toArray, List.length_cons, List.length_nil, Nat.reduceAdd, Nat.reduceSub, Array.replicate_succ, Array.replicate_zero, List.push_toArray, List.append_toArray, List.nil_append, List.cons_append]
  gi_wp2
  go_ret
  exact ⟨rfl, rfl⟩

theorem backward_stops (F : Fence) (n : Nat) (h60 : F.fn 60) (hro : F.round = none) (hn : 1 ≤ n) (Bs b off len cap : Nat) (zs : List Int) (hreach : len ≤ 140737488351232) (w : World) (hBs : Bs < w.heap.size) (hb : len ≠ 0 → b < w.heap.size)
    (hcs : w.cell? ⟨Bs, 0, none⟩ = some (.slice (some ⟨b, off, none⟩) len cap)) (hc : ∀ j, j < len → w.cell? ⟨b, off + j, none⟩ = some (.int .u8 (zs[j]?.getD 0))) :
    SeqStopsK F n Tryz.prog 60 #[.pointer (some ⟨Bs, 0, none⟩)] (fun x : Nat × Int => #[Value.int .i64 (x.1 : Int), Value.int .u8 x.2]) (KB b Bs) (fun ys => ys = upto (bk zs len) len)
      (fun pre => ∃ k, k ≤ len ∧ pre = upto (bk zs len) k) len w := fun l J Jx W hW _ _ hY h0 =>
  backward1_in F n h60 hro hn l Bs b off len cap zs hreach J Jx hY W ((hW.cell (p := ⟨Bs, 0, none⟩) hBs).trans hcs) (fun j hj => (hW.cell (p := ⟨b, off + j, none⟩) (hb (by omega))).trans (hc j hj)) h0
end Go.Proofs.YtecohkoekifeiaaGreatDoor
namespace Go.Proofs.YtecohkoekifeiaaGreatDoor
open Go.RowKit Go.Shelf
set_option linter.unusedVariables false

/-- What a number that comes leaves. -/
def NumAt (rb : Nat) (G : Option Nat) (r : Rd) (w : World) (e : Ending) (w' : World) : Prop :=
  e = .returned (.int .i64 r.num.1) ∧ ∃ a' c', Rdr w' rb G r.num.2 a' c' ∧ Kp (fun k => k = rb) w w'

/-- The reader's error is set. -/
theorem Rdr.err {w w' : World} {rb : Nat} {G : Option Nat} {b : List Int} {a : Option Addr} {c : Nat} (h : Rdr w rb G ⟨0, b⟩ a c) {n : Int} (hb : w'.heap[rb]? = some (.cells #[.int .i64 n, .slice a b.length c, .bool true] 99 (0, 0))) (hk : Kp (fun k => k = rb) w w') :
    Rdr w' rb G ⟨n, b⟩ a c :=
  ⟨hb, h.row.kp hk (fun g hg e => h.ne (by rw [← h.at_ g hg, e])), h.at_, h.ne, h.cap, h.nn, h.sp⟩

set_option maxHeartbeats 4000000 in
theorem num_bad_at {w : World} {rb : Nat} {G : Option Nat} {r : Rd} {a : Option Addr} {c : Nat} (h : Rdr w rb G r a c) (he : r.e ≠ 0) : Calls Tryz.prog 20 #[.pointer (some ⟨rb, 0, none⟩)] w (NumAt rb G r w) := by
  have H1 := Lib.hid (none_no h.blk (m := true) rfl)
  have H2 := Lib.hid (ok_any h.blk (e := r.e) rfl)
  have H := Lib.hid h
  unfold NumAt
  rw [Rd.num_bad he]
  have hd : decide (r.e = 0) = false := by simpa using he
  rw [hd] at H2
  clear h
  go_enter Tryz.func20, Tryz.ntmps20
  go_wp2_with (first | (go_at_call 45; refine (H1.out).mono ?_; rintro e w1 ⟨rfl, rfl⟩) | (go_at_call 46; refine (H2.out).mono ?_; rintro e w1 ⟨rfl, rfl⟩))
  go_ret
  exact ⟨rfl, a, c, H.out, Kp.refl _ _⟩

set_option maxHeartbeats 4000000 in
theorem num_end_at {w : World} {rb : Nat} {G : Option Nat} {a : Option Addr} {c : Nat} (h : Rdr w rb G ⟨0, []⟩ a c) : Calls Tryz.prog 20 #[.pointer (some ⟨rb, 0, none⟩)] w (NumAt rb G ⟨0, []⟩ w) := by
  have H1 := Lib.hid (none_no h.blk (m := true) rfl)
  have H2 := Lib.hid (ok_any h.blk (e := 0) rfl)
  have H3 := Lib.hid (set_any h.blk (e := 0) rfl 20)
  have c1 := cell_of h.blk 1 (v := .slice a 0 c) rfl
  have H := Lib.hid h
  clear h
  go_enter Tryz.func20, Tryz.ntmps20
  go_wp2_with (first | (go_at_call 45; refine (H1.out).mono ?_; rintro e w1 ⟨rfl, rfl⟩) | (go_at_call 46; refine (H2.out).mono ?_; rintro e w1 ⟨rfl, rfl⟩) | (go_at_call 47; refine (H3.out).mono ?_; rintro e w1 ⟨rfl, hb, hk⟩; have HB := Lib.hid hb; have HK := Lib.hid hk; clear hb hk))
  go_ret
  exact ⟨rfl, a, c, H.out.err HB.out HK.out, HK.out⟩

set_option maxHeartbeats 4000000 in
theorem num_form_at {w : World} {rb : Nat} {G : Option Nat} {n : Int} {t : List Int} {a : Option Addr} {c : Nat} (h : Rdr w rb G ⟨0, n :: t⟩ a c) (h0 : 0 ≤ n ∧ n < 256) (h6 : 6 < n) : Calls Tryz.prog 20 #[.pointer (some ⟨rb, 0, none⟩)] w (NumAt rb G ⟨0, n :: t⟩ w) := by
  have H1 := Lib.hid (none_no h.blk (m := true) rfl)
  have H2 := Lib.hid (ok_any h.blk (e := 0) rfl)
  have H3 := Lib.hid (set_any h.blk (e := 0) rfl 21)
  obtain ⟨g, off, rfl, x0⟩ := h.row 0 (.int .u8 n) rfl
  have c1 := cell_of h.blk 1 (v := .slice (some ⟨g, off, none⟩) (t.length + 1) c) rfl
  have H := Lib.hid h
  clear h
  rw [Nat.add_zero] at x0
  have hl0 : (0 : Int) < ((t.length : Int) + 1) := by omega
  have hr : (⟨0, n :: t⟩ : Rd).num = (0, ⟨21, n :: t⟩) := by simp [Rd.num, h6]
  unfold NumAt
  rw [hr]
  clear hr
  go_enter Tryz.func20, Tryz.ntmps20
  go_wp2_with (first | (go_at_call 45; refine (H1.out).mono ?_; rintro e w1 ⟨rfl, rfl⟩) | (go_at_call 46; refine (H2.out).mono ?_; rintro e w1 ⟨rfl, rfl⟩) | (go_at_call 47; refine (H3.out).mono ?_; rintro e w1 ⟨rfl, hb, hk⟩; have HB := Lib.hid hb; have HK := Lib.hid hk; clear hb hk))
  go_ret
  exact ⟨rfl, _, c, H.out.err HB.out HK.out, HK.out⟩

set_option maxHeartbeats 4000000 in
theorem num_short_at {w : World} {rb : Nat} {G : Option Nat} {n : Int} {t : List Int} {a : Option Addr} {c : Nat} (h : Rdr w rb G ⟨0, n :: t⟩ a c) (h0 : 0 ≤ n ∧ n < 256) (h6 : ¬ 6 < n) (hs : t.length < n.toNat) : Calls Tryz.prog 20 #[.pointer (some ⟨rb, 0, none⟩)] w (NumAt rb G ⟨0, n :: t⟩ w) := by
  have H1 := Lib.hid (none_no h.blk (m := true) rfl)
  have H2 := Lib.hid (ok_any h.blk (e := 0) rfl)
  have H3 := Lib.hid (set_any h.blk (e := 0) rfl 20)
  obtain ⟨g, off, rfl, x0⟩ := h.row 0 (.int .u8 n) rfl
  have c1 := cell_of h.blk 1 (v := .slice (some ⟨g, off, none⟩) (t.length + 1) c) rfl
  have H := Lib.hid h
  clear h
  rw [Nat.add_zero] at x0
  have hl0 : (0 : Int) < ((t.length : Int) + 1) := by omega
  have hr : (⟨0, n :: t⟩ : Rd).num = (0, ⟨20, n :: t⟩) := by simp [Rd.num, h6, hs]
  have hle : (t.length : Int) + 1 ≤ n := by omega
  unfold NumAt
  rw [hr]
  clear hr
  go_enter Tryz.func20, Tryz.ntmps20
  go_wp2_with (first | (go_at_call 45; refine (H1.out).mono ?_; rintro e w1 ⟨rfl, rfl⟩) | (go_at_call 46; refine (H2.out).mono ?_; rintro e w1 ⟨rfl, rfl⟩) | (go_at_call 47; refine (H3.out).mono ?_; rintro e w1 ⟨rfl, hb, hk⟩; have HB := Lib.hid hb; have HK := Lib.hid hk; clear hb hk))
  go_ret
  exact ⟨rfl, _, c, H.out.err HB.out HK.out, HK.out⟩

set_option maxHeartbeats 4000000 in
theorem num_zero_at {w : World} {rb : Nat} {G : Option Nat} {n : Int} {t : List Int} {a : Option Addr} {c : Nat} (h : Rdr w rb G ⟨0, n :: t⟩ a c) (h0 : 0 ≤ n ∧ n < 256) (h6 : ¬ 6 < n) (hs : ¬ t.length < n.toNat) (hp : 0 < n) (hz : t.getD (n.toNat - 1) 0 = 0) : Calls Tryz.prog 20 #[.pointer (some ⟨rb, 0, none⟩)] w (NumAt rb G ⟨0, n :: t⟩ w) := by
  have H1 := Lib.hid (none_no h.blk (m := true) rfl)
  have H2 := Lib.hid (ok_any h.blk (e := 0) rfl)
  have H3 := Lib.hid (set_any h.blk (e := 0) rfl 21)
  obtain ⟨g, off, rfl, x0⟩ := h.row 0 (.int .u8 n) rfl
  have c1 := cell_of h.blk 1 (v := .slice (some ⟨g, off, none⟩) (t.length + 1) c) rfl
  have H := Lib.hid h
  clear h
  rw [Nat.add_zero] at x0
  have hl0 : (0 : Int) < ((t.length : Int) + 1) := by omega
  have hr : (⟨0, n :: t⟩ : Rd).num = (0, ⟨21, n :: t⟩) := by simp only [Rd.num, h6, hs, if_true, if_false, hp, hz, and_self]
  have hle : ¬ ((t.length : Int) + 1 ≤ n) := by omega
  obtain ⟨m, rfl⟩ : ∃ m : Nat, n = m := ⟨n.toNat, by omega⟩
  have xm : w.cell? ⟨g, off + m, none⟩ = some (.int .u8 0) := by
    obtain ⟨g', off', e, hx⟩ := H.out.row m (.int .u8 0) (by
      obtain ⟨k, rfl⟩ : ∃ k, m = k + 1 := ⟨m - 1, by omega⟩
      simp only [bytes, List.map_cons, List.getElem?_cons_succ, List.getElem?_map]
      have hk : k < t.length := by omega
      rw [List.getElem?_eq_getElem hk]
      simp only [Option.map_some, Option.some.injEq, Value.int.injEq, true_and]
      have : t.getD k 0 = 0 := by simpa using hz
      simpa [List.getD, hk] using this)
    cases e
    exact hx
  have hmI : (m : Int) < (t.length : Int) + 1 := by omega
  unfold NumAt
  rw [hr]
  clear hr hz
  go_enter Tryz.func20, Tryz.ntmps20
  go_wp2_with (first | (go_at_call 45; refine (H1.out).mono ?_; rintro e w1 ⟨rfl, rfl⟩) | (go_at_call 46; refine (H2.out).mono ?_; rintro e w1 ⟨rfl, rfl⟩) | (go_at_call 47; refine (H3.out).mono ?_; rintro e w1 ⟨rfl, hb, hk⟩; have HB := Lib.hid hb; have HK := Lib.hid hk; clear hb hk))
  go_ret
  exact ⟨rfl, _, c, H.out.err HB.out HK.out, HK.out⟩
end Go.Proofs.YtecohkoekifeiaaGreatDoor
namespace Go.Proofs.YtecohkoekifeiaaGreatDoor
open Go.RowKit

/-- One round: the number so far, the next byte. -/
def st (a c : Int) : Int := bits BinOp.or IntKind.i64 (wrap64 (a * 256)) (wrap64 c)
def fd (l : List (Nat × Int)) : Int := l.foldl (fun a p => st a p.2) 0
theorem fd_snoc (l : List (Nat × Int)) (p : Nat × Int) : fd (l ++ [p]) = st (fd l) p.2 := by simp [fd]

theorem bits_or_i64_nat (a b : Nat) (ha : a < 9223372036854775808) (hb : b < 9223372036854775808) :
    bits .or .i64 (a : Int) (b : Int) = ((a ||| b : Nat) : Int) := by
  have hx : a ||| b < 2 ^ 63 := Nat.or_lt_two_pow (by omega) (by omega)
  have h1 : (BitVec.ofInt 64 (a : Int)).toNat = a := by
    rw [BitVec.ofInt_natCast, BitVec.toNat_ofNat]; exact Nat.mod_eq_of_lt (by omega)
  have h2 : (BitVec.ofInt 64 (b : Int)).toNat = b := by
    rw [BitVec.ofInt_natCast, BitVec.toNat_ofNat]; exact Nat.mod_eq_of_lt (by omega)
  show IntKind.i64.wrap ((BitVec.ofInt 64 (a : Int) ||| BitVec.ofInt 64 (b : Int)).toNat : Int) = _
  rw [BitVec.toNat_or, h1, h2, IntKind.wrap_i64]
  omega

theorem st_nat (a c : Nat) (ha : a < 281474976710656) (hc : c < 256) : st a c = ((a * 256 + c : Nat) : Int) := by
  have h1 : wrap64 ((a : Int) * 256) = ((a * 256 : Nat) : Int) := by unfold wrap64; omega
  have h2 : wrap64 (c : Int) = (c : Int) := by unfold wrap64; omega
  unfold st
  rw [h1, h2, bits_or_i64_nat _ _ (by omega) (by omega)]
  have := Nat.shiftLeft_add_eq_or_of_lt (i := 8) (b := c) (by omega) a
  rw [Nat.shiftLeft_eq] at this
  have h3 : a * 256 ||| c = a * 256 + c := this.symm
  rw [h3]

theorem fd_val {t : List Int} (hB : Byte t) {n : Nat} (h6 : n ≤ 6) (hs : n ≤ t.length) : ∀ k, k ≤ n → fd (upto (bk t n) k) = ((val ((t.take n).drop (n - k)) : Nat) : Int) := by
  intro k
  induction k with
  | zero =>
    intro _
    have : (t.take n).drop (n - 0) = [] := by simp
    rw [this]
    rfl
  | succ k ih =>
    intro hk
    have hlt : n - 1 - k < t.length := by omega
    have hget : t[n - 1 - k]?.getD 0 = t[n - 1 - k] := by simp [hlt]
    have hb := hB t[n - 1 - k] (List.getElem_mem hlt)
    have hd : (t.take n).drop (n - (k + 1)) = t[n - 1 - k] :: (t.take n).drop (n - k) := by
      have hl : n - (k + 1) < (t.take n).length := by rw [List.length_take]; omega
      rw [List.drop_eq_getElem_cons hl]
      congr 1
      · simp only [List.getElem_take]
        congr 1
        omega
      · congr 1
        omega
    have hv : val ((t.take n).drop (n - k)) < 281474976710656 := by
      have h1 : Byte ((t.take n).drop (n - k)) := byte_drop (byte_take hB _) _
      have h2 := val_lt h1
      have h3 : ((t.take n).drop (n - k)).length ≤ 6 := by rw [List.length_drop, List.length_take]; omega
      have h4 : 256 ^ ((t.take n).drop (n - k)).length ≤ 256 ^ 6 := Nat.pow_le_pow_right (by omega) h3
      have h5 : (256 : Nat) ^ 6 = 281474976710656 := by decide
      omega
    rw [upto_succ, fd_snoc, ih (by omega), hd]
    show st _ (t[n - 1 - k]?.getD 0) = _
    rw [hget]
    obtain ⟨c, hc⟩ : ∃ c : Nat, t[n - 1 - k] = c := ⟨t[n - 1 - k].toNat, by omega⟩
    rw [hc, st_nat _ _ hv (by omega)]
    show ((_ : Nat) : Int) = ((((c : Nat) : Int).toNat + 256 * val _ : Nat) : Int)
    rw [Int.toNat_natCast]
    congr 1
    omega

theorem fd_all {t : List Int} (hB : Byte t) {n : Nat} (h6 : n ≤ 6) (hs : n ≤ t.length) : fd (upto (bk t n) n) = ((val (t.take n) : Nat) : Int) := by
  have := fd_val hB h6 hs n (Nat.le_refl n)
  simpa using this
end Go.Proofs.YtecohkoekifeiaaGreatDoor
namespace Go.Proofs.YtecohkoekifeiaaGreatDoor
open Go.RowKit Go.Shelf
set_option linter.unusedVariables false
attribute [local go_sem] Oper.semAt_some

/-- What Number leaves where a number came. -/
theorem num_fin {w1 W : World} {rb : Nat} {G : Option Nat} {n : Nat} {t : List Int} {g off c D : Nat} (H : Rdr w1 rb G ⟨0, (n : Int) :: t⟩ (some ⟨g, off, none⟩) c) (hs : n ≤ t.length) (hB : Below w1.heap.size w1 W) (hD : w1.heap.size ≤ D) (hDW : D < W.heap.size)
    (a' : Option Addr) (c' : Nat) (ha : a' = some ⟨g, off + (n + 1), none⟩ ∨ (t.length = n ∧ a' = some ⟨g, off, none⟩)) (hc : t.length - n ≤ c') (o : Obj) :
    Rdr ((W.setCell ⟨rb, 1, none⟩ (.slice a' (t.length - n) c')).putObj D o) rb G ⟨0, t.drop n⟩ a' c' ∧ Kp (fun k => k = rb) w1 ((W.setCell ⟨rb, 1, none⟩ (.slice a' (t.length - n) c')).putObj D o) := by
  have hrb := lt_of_block H.blk
  have hbW : W.heap[rb]? = some (.cells #[.int .i64 0, .slice (some ⟨g, off, none⟩) (t.length + 1) c, .bool true] 99 (0, 0)) := (hB.block rb hrb).trans H.blk
  have hset := heap_set hbW 1 (.slice a' (t.length - n) c')
  have hne : g ≠ rb := fun e => H.ne (by rw [← H.at_ g rfl, e])
  have hblk : blockOf a' = some g := by rcases ha with rfl | ⟨_, rfl⟩ <;> rfl
  refine ⟨⟨?_, fun i v hv => ?_, fun g' hg' => ?_, H.ne, ?_, fun e => (by rcases ha with rfl | ⟨_, rfl⟩ <;> cases e), fun ad e => (by rcases ha with rfl | ⟨_, rfl⟩ <;> cases e <;> rfl)⟩, ⟨hB.os, hB.tape, hB.output, ?_, fun k hk hn => ?_⟩⟩
  · rw [World.putObj_heap_other (by omega), hset]
    simp
  · have hi : i < (t.drop n).length := by
      have := (List.getElem?_eq_some_iff.1 hv).1
      simpa [bytes] using this
    rw [List.length_drop] at hi
    rcases ha with rfl | ⟨e, rfl⟩
    · obtain ⟨g', off', e, hx⟩ := H.row (n + 1 + i) v (by
        simp only [bytes, List.getElem?_map, List.getElem?_drop] at hv
        simp only [bytes, List.getElem?_map]
        rw [show n + 1 + i = (n + i) + 1 by omega, List.getElem?_cons_succ]
        exact hv)
      cases e
      refine ⟨g, off + (n + 1), rfl, ?_⟩
      have hgl := World.block_lt_of_cell? (a := ⟨g, off + (n + 1 + i), none⟩) w1 hx
      dsimp only at hgl
      have hheap : ((W.setCell ⟨rb, 1, none⟩ (.slice (some ⟨g, off + (n + 1), none⟩) (t.length - n) c')).putObj D o).heap[g]? = w1.heap[g]? := by
        rw [World.putObj_heap_other (by omega), Below.heap_setCell W ⟨rb, 1, none⟩ _ g hne]
        exact hB.block g hgl
      rw [show off + (n + 1) + i = off + (n + 1 + i) by omega]
      exact (World.cell?_of_block (w := w1) (a := ⟨g, off + (n + 1 + i), none⟩) hheap).trans hx
    · omega
  · rw [hblk] at hg'
    cases hg'
    exact H.at_ g rfl
  · rw [List.length_drop]; exact hc
  · simp only [World.putObj, Array.size_setIfInBounds]
    have := hB.size
    simpa [World.setCell] using this
  · rw [World.putObj_heap_other (by omega), Below.heap_setCell W ⟨rb, 1, none⟩ _ k hn]
    exact hB.block k hk

set_option maxRecDepth 100000 in
set_option maxHeartbeats 4000000 in
theorem num_good_at {w : World} {rb : Nat} {G : Option Nat} {n : Nat} {t : List Int} {a : Option Addr} {c : Nat} (h : Rdr w rb G ⟨0, (n : Int) :: t⟩ a c) (hn0 : 0 < n) (h6 : n ≤ 6) (hs : n ≤ t.length) (hz : ¬ t.getD (n - 1) 0 = 0) (hB : Byte t) (hm : t.length ≤ 140737488351231) :
    Calls Tryz.prog 20 #[.pointer (some ⟨rb, 0, none⟩)] w (NumAt rb G ⟨0, (n : Int) :: t⟩ w) := by
  have H1 := Lib.hid (none_no h.blk (m := true) rfl)
  have H2 := Lib.hid (ok_any h.blk (e := 0) rfl)
  obtain ⟨g, off, rfl, x0⟩ := h.row 0 (.int .u8 n) rfl
  have c1 := cell_of h.blk 1 (v := .slice (some ⟨g, off, none⟩) (t.length + 1) c) rfl
  have hrb := lt_of_block h.blk
  have hgl := World.block_lt_of_cell? (a := ⟨g, off + 0, none⟩) w x0
  dsimp only at hgl
  have hcap : t.length + 1 ≤ c := h.cap
  have hcI : (t.length : Int) + 1 ≤ (c : Int) := by omega
  have hnc : (n : Int) + 1 ≤ (c : Int) := by omega
  have H := Lib.hid h
  clear h
  rw [Nat.add_zero] at x0
  have hl0 : (0 : Int) < ((t.length : Int) + 1) := by omega
  have hn6 : ¬ (6 < (n : Int)) := by omega
  have hle : ¬ ((t.length : Int) + 1 ≤ (n : Int)) := by omega
  have hmI : (n : Int) < (t.length : Int) + 1 := by omega
  have hm0 : (0 : Int) ≤ (n : Int) := by omega
  have hmp : (0 : Int) < (n : Int) := by omega
  obtain ⟨z, hzz⟩ : ∃ z, z = t.getD (n - 1) 0 := ⟨_, rfl⟩
  have xm : w.cell? ⟨g, off + n, none⟩ = some (.int .u8 z) := by
    obtain ⟨g', off', e, hx⟩ := H.out.row n (.int .u8 z) (by
      obtain ⟨k, rfl⟩ : ∃ k, n = k + 1 := ⟨n - 1, by omega⟩
      simp only [bytes, List.map_cons, List.getElem?_cons_succ, List.getElem?_map]
      have hk : k < t.length := by omega
      rw [List.getElem?_eq_getElem hk]
      simp only [Option.map_some, Option.some.injEq, Value.int.injEq, true_and]
      rw [hzz]
      simp [List.getD, hk])
    cases e
    exact hx
  rw [← hzz] at hz
  have HZ := Lib.hid hzz
  clear hzz
  refine (callsIn_wide (n := 3)).1 ?_
  refine callsIn_of_wp_marks Tryz.func20 rfl trivial ?_ rfl
  simp only [Tryz.ntmps20, List.size_toArray, List.length_cons, List.length_nil, Nat.reduceAdd, Nat.reduceSub, Array.replicate_succ, Array.replicate_zero, List.push_toArray, List.append_toArray, List.nil_append, List.cons_append]
  gi_wp2_with (first | (refine ⟨trivial, ?_⟩; gi_at_call 45; refine (callsIn_wide.2 H1.out).mono ?_; rintro e w1 ⟨rfl, rfl⟩) | (refine ⟨trivial, ?_⟩; gi_at_call 46; refine (callsIn_wide.2 H2.out).mono ?_; rintro e w1 ⟨rfl, rfl⟩) | (refine ⟨trivial, ?_⟩; gi_at_call 48; refine (backward_in _ _ trivial rfl _ _ _ _).mono ?_; rintro e w1 ⟨rfl, rfl⟩))
  have bS := Boxed.new w1 3 (.int .i64 0)
  have bN := Boxed.new (w1.alloc (.cells #[.int .i64 0] 3)) 22 (.slice (some ⟨g, off + 1, none⟩) n (c - 1))
  rw [World.size_alloc] at bN
  have hB0 : Below w1.heap.size w1 ((w1.alloc (.cells #[.int .i64 0] 3)).alloc (.cells #[.slice (some ⟨g, off + 1, none⟩) n (c - 1)] 22)) := ((Below.refl _ w1).alloc (Nat.le_refl _) _).alloc (by simp) _
  have hbytes : ∀ j, j < n → ((w1.alloc (.cells #[.int .i64 0] 3)).alloc (.cells #[.slice (some ⟨g, off + 1, none⟩) n (c - 1)] 22)).cell? ⟨g, off + 1 + j, none⟩ = some (.int .u8 (t[j]?.getD 0)) := by
    intro j hj
    have hjt : j < t.length := by omega
    obtain ⟨g', off', e, hx⟩ := H.out.row (j + 1) (.int .u8 (t[j]?.getD 0)) (by simp [bytes, hjt])
    cases e
    refine (hB0.cell (p := ⟨g, off + 1 + j, none⟩) hgl).trans ?_
    rw [show off + 1 + j = off + (j + 1) by omega]
    exact hx
  refine wpIn_rangeFunc_ownG rfl (by omega) (gf := 60) (lb := #[.pointer (some ⟨w1.heap.size + 1, 0, none⟩)]) rfl trivial (enters_of Tryz.func60 (by kernel_rfl) rfl)
    (backward_stops Fence.wide (3 - 1) trivial rfl (by omega) (w1.heap.size + 1) g (off + 1) n (c - 1) t (by omega) _ (by simp) (fun _ => by simp; omega) bN.cell hbytes) KB.trans (KB.put (by simp; omega) (by simp)) (Below.refl _ _) (fun _ => rfl)
    (fun pre W => (W.cell? ⟨w1.heap.size, 0, none⟩ = some (.int .i64 (fd pre)) ∧ W.frozen? ⟨w1.heap.size, 0, none⟩ = false) ∧ Below w1.heap.size w1 W)
    (fun _ _ _ => False)
    (OwnFrom.and (Own.from (fun s A B row hs hg hr => ⟨cell_kept hs.1 hg hr, (frozen_kept hs.1 hg hr).trans hs.2⟩) _) (ownFrom_below (Nat.le_refl _) (by simp; omega)))
    (fun _ _ _ _ _ hs _ _ => hs)
    ⟨⟨(bS.alloc _).cell, (bS.alloc _).frozen⟩, hB0⟩
    (fun x : Nat × Int => { tmps := #[.pointer (some ⟨rb, 0, none⟩), undef, .int .i64 0, .int .i64 (n : Int), .pointer (some ⟨w1.heap.size, 0, none⟩), undef, .int .u8 x.2, .pointer (some ⟨rb, 0, none⟩), .bool false, .bool false, .pointer (some ⟨rb, 0, none⟩), .pointer (some ⟨rb, 0, none⟩), .pointer (some ⟨rb, 0, none⟩), .bool true, .bool false, .bool false, .pointer (some ⟨rb, 0, none⟩), .pointer (some ⟨rb, 0, none⟩), .pointer (some ⟨rb, 1, none⟩), .slice (some ⟨g, off, none⟩) (t.length + 1) c, .int .i64 ((t.length : Int) + 1), .bool false, undef, undef, undef, undef, .pointer (some ⟨rb, 0, none⟩), .pointer (some ⟨rb, 0, none⟩), .pointer (some ⟨rb, 1, none⟩), .slice (some ⟨g, off, none⟩) (t.length + 1) c, .pointer (some ⟨g, off, none⟩), .int .u8 (n : Int), .int .i64 (n : Int), .pointer (some ⟨rb, 0, none⟩), .pointer (some ⟨rb, 0, none⟩), .pointer (some ⟨rb, 1, none⟩), .slice (some ⟨g, off, none⟩) (t.length + 1) c, .int .i64 (n : Int), .int .i64 ((n : Int) + 1), .slice (some ⟨g, off + 1, none⟩) n (c - 1), .func (.func 60) #[] #[.pointer (some ⟨w1.heap.size + 1, 0, none⟩)], .int .i64 (x.1 : Int), .int .u8 x.2, undef, undef, undef, undef, undef, undef, undef, undef, undef, undef, undef, undef, undef, undef, undef, undef, .bool (decide (6 < (n : Int))), .int .i64 (n : Int), .bool (decide (6 < (n : Int))), undef, undef, undef, undef, .bool (decide ((t.length : Int) + 1 ≤ (n : Int))), .pointer (some ⟨rb, 0, none⟩), .pointer (some ⟨rb, 0, none⟩), .pointer (some ⟨rb, 1, none⟩), .slice (some ⟨g, off, none⟩) (t.length + 1) c, .int .i64 ((t.length : Int) + 1), .int .i64 (n : Int), .bool (decide ((t.length : Int) + 1 ≤ (n : Int))), undef, undef, undef, undef, .bool false, .int .i64 (n : Int), .bool true, .bool true, .pointer (some ⟨rb, 0, none⟩), .pointer (some ⟨rb, 0, none⟩), .pointer (some ⟨rb, 1, none⟩), .slice (some ⟨g, off, none⟩) (t.length + 1) c, .int .i64 (n : Int), .pointer (some ⟨g, off + n, none⟩), .int .u8 z, .bool false, .bool false, undef, undef, undef, undef], defers := [] }) ?assign ?body ?done ?stop
  case assign =>
    intro l x W K hK
    gi_wp2
    exact hK
  case body =>
    rintro l pre x W ⟨⟨hc, hf⟩, hB⟩ _
    gi_wp2
    exact ⟨(KeepsOthers.setCell _ _ _).from _, ⟨Below.heap_setCell W ⟨w1.heap.size, 0, none⟩ _ g (by show g ≠ w1.heap.size; omega), Below.heap_setCell W ⟨w1.heap.size, 0, none⟩ _ (w1.heap.size + 1) (by show w1.heap.size + 1 ≠ w1.heap.size; omega)⟩,
      ⟨by rw [fd_snoc]; exact World.cell?_setCell_same' _ _ _ (by rw [hc]; rfl), by rw [World.frozen?_setCell]; exact hf⟩, hB.setCell (p := ⟨w1.heap.size, 0, none⟩) (Nat.le_refl _) _⟩
  case done =>
    rintro D ys W hD rfl ⟨⟨hc, _⟩, hB⟩ hK
    have c1W := (hB.cell (p := ⟨rb, 1, none⟩) hrb).trans c1
    have f1W : W.frozen? ⟨rb, 1, none⟩ = false := by
      rw [World.frozen?_of_block (w := w1) (a := ⟨rb, 1, none⟩) (hB.block rb hrb)]
      exact free_of H.out.blk 1
    have hsub : (t.length : Int) + 1 - ((n : Int) + 1) = ((t.length - n : Nat) : Int) := by omega
    have hr : (⟨0, (n : Int) :: t⟩ : Rd).num = (val (t.take n), ⟨0, t.drop n⟩) := by
      have hx : ¬ (0 < n ∧ t[n - 1]?.getD 0 = 0) := by
        rintro ⟨_, h2⟩
        apply hz
        rw [HZ.out]
        simpa using h2
      have h1 : ¬ (t.length < n) := by omega
      have h2 : ¬ (6 < (n : Int)) := by omega
      simp [Rd.num, h1, h2, hx]
    have hDl := (Array.getElem?_eq_some_iff.1 hK).1
    simp only [World.size_alloc] at hD
    gi_wp2
    all_goals
      refine ⟨by simp, .inl ⟨_, _, rfl, run_takeDeferred ((Below.heap_setCell W ⟨rb, 1, none⟩ _ D (by show D ≠ rb; omega)).trans hK), ?_⟩⟩
      refine ⟨_, results_tmp rfl _ _ _, ?_⟩
      unfold NumAt
      rw [hr]
    · have hce : t.length = n := by omega
      obtain ⟨f1, f2⟩ := num_fin H.out hs hB (by omega) hDl (some ⟨g, off, none⟩) 0 (.inr ⟨hce, rfl⟩) (by omega) (.deferred none)
      exact ⟨by rw [← fd_all (by assumption) h6 hs]; first | rfl | simp, _, _, f1, f2⟩
    · obtain ⟨f1, f2⟩ := num_fin H.out hs hB (by omega) hDl (some ⟨g, off + (n + 1), none⟩) (c - (n + 1)) (.inl rfl) (by omega) (.deferred none)
      exact ⟨by rw [← fd_all (by assumption) h6 hs]; first | rfl | simp, _, _, f1, f2⟩
  case stop =>
    rintro D c pre W _ _ h _
    exact h.elim
set_option maxRecDepth 100000 in
set_option maxHeartbeats 4000000 in
theorem num_zero_good_at {w : World} {rb : Nat} {G : Option Nat} {t : List Int} {a : Option Addr} {c : Nat} (h : Rdr w rb G ⟨0, 0 :: t⟩ a c) (hc1 : 1 < c) (hB : Byte t) (hm : t.length ≤ 140737488351231) :
    Calls Tryz.prog 20 #[.pointer (some ⟨rb, 0, none⟩)] w (NumAt rb G ⟨0, 0 :: t⟩ w) := by
  have H1 := Lib.hid (none_no h.blk (m := true) rfl)
  have H2 := Lib.hid (ok_any h.blk (e := 0) rfl)
  obtain ⟨g, off, rfl, x0⟩ := h.row 0 (.int .u8 0) rfl
  have c1 := cell_of h.blk 1 (v := .slice (some ⟨g, off, none⟩) (t.length + 1) c) rfl
  have hrb := lt_of_block h.blk
  have hgl := World.block_lt_of_cell? (a := ⟨g, off + 0, none⟩) w x0
  dsimp only at hgl
  have hcap : t.length + 1 ≤ c := h.cap
  have hcI : (t.length : Int) + 1 ≤ (c : Int) := by omega
  have hc1I : (1 : Int) < (c : Int) := by omega
  have hle : ¬ ((t.length : Int) + 1 ≤ 0) := by omega
  have H := Lib.hid h
  clear h
  rw [Nat.add_zero] at x0
  have hl0 : (0 : Int) < ((t.length : Int) + 1) := by omega
  refine (callsIn_wide (n := 3)).1 ?_
  refine callsIn_of_wp_marks Tryz.func20 rfl trivial ?_ rfl
  simp only [Tryz.ntmps20, List.size_toArray, List.length_cons, List.length_nil, Nat.reduceAdd, Nat.reduceSub, Array.replicate_succ, Array.replicate_zero, List.push_toArray, List.append_toArray, List.nil_append, List.cons_append]
  gi_wp2_with (first | (refine ⟨trivial, ?_⟩; gi_at_call 45; refine (callsIn_wide.2 H1.out).mono ?_; rintro e w1 ⟨rfl, rfl⟩) | (refine ⟨trivial, ?_⟩; gi_at_call 46; refine (callsIn_wide.2 H2.out).mono ?_; rintro e w1 ⟨rfl, rfl⟩) | (refine ⟨trivial, ?_⟩; gi_at_call 48; refine (backward_in _ _ trivial rfl _ _ _ _).mono ?_; rintro e w1 ⟨rfl, rfl⟩))
  have bS := Boxed.new w1 3 (.int .i64 0)
  have bN := Boxed.new (w1.alloc (.cells #[.int .i64 0] 3)) 22 (.slice (some ⟨g, off + 1, none⟩) 0 (c - 1))
  rw [World.size_alloc] at bN
  have hB0 : Below w1.heap.size w1 ((w1.alloc (.cells #[.int .i64 0] 3)).alloc (.cells #[.slice (some ⟨g, off + 1, none⟩) 0 (c - 1)] 22)) := ((Below.refl _ w1).alloc (Nat.le_refl _) _).alloc (by simp) _
  have hbytes : ∀ j, j < 0 → ((w1.alloc (.cells #[.int .i64 0] 3)).alloc (.cells #[.slice (some ⟨g, off + 1, none⟩) 0 (c - 1)] 22)).cell? ⟨g, off + 1 + j, none⟩ = some (.int .u8 (t[j]?.getD 0)) := by
    intro j hj
    omega
  refine wpIn_rangeFunc_ownG rfl (by omega) (gf := 60) (lb := #[.pointer (some ⟨w1.heap.size + 1, 0, none⟩)]) rfl trivial (enters_of Tryz.func60 (by kernel_rfl) rfl)
    (backward_stops Fence.wide (3 - 1) trivial rfl (by omega) (w1.heap.size + 1) g (off + 1) 0 (c - 1) t (by omega) _ (by simp) (fun h => absurd rfl h) bN.cell hbytes) KB.trans (KB.put (by simp; omega) (by simp)) (Below.refl _ _) (fun _ => rfl)
    (fun pre W => (W.cell? ⟨w1.heap.size, 0, none⟩ = some (.int .i64 (fd pre)) ∧ W.frozen? ⟨w1.heap.size, 0, none⟩ = false) ∧ Below w1.heap.size w1 W)
    (fun _ _ _ => False)
    (OwnFrom.and (Own.from (fun s A B row hs hg hr => ⟨cell_kept hs.1 hg hr, (frozen_kept hs.1 hg hr).trans hs.2⟩) _) (ownFrom_below (Nat.le_refl _) (by simp; omega)))
    (fun _ _ _ _ _ hs _ _ => hs)
    ⟨⟨(bS.alloc _).cell, (bS.alloc _).frozen⟩, hB0⟩
    (fun x : Nat × Int => { tmps := #[.pointer (some ⟨rb, 0, none⟩), undef, .int .i64 0, .int .i64 0, .pointer (some ⟨w1.heap.size, 0, none⟩), undef, .int .u8 x.2, .pointer (some ⟨rb, 0, none⟩), .bool false, .bool false, .pointer (some ⟨rb, 0, none⟩), .pointer (some ⟨rb, 0, none⟩), .pointer (some ⟨rb, 0, none⟩), .bool true, .bool false, .bool false, .pointer (some ⟨rb, 0, none⟩), .pointer (some ⟨rb, 0, none⟩), .pointer (some ⟨rb, 1, none⟩), .slice (some ⟨g, off, none⟩) (t.length + 1) c, .int .i64 ((t.length : Int) + 1), .bool false, undef, undef, undef, undef, .pointer (some ⟨rb, 0, none⟩), .pointer (some ⟨rb, 0, none⟩), .pointer (some ⟨rb, 1, none⟩), .slice (some ⟨g, off, none⟩) (t.length + 1) c, .pointer (some ⟨g, off, none⟩), .int .u8 0, .int .i64 0, .pointer (some ⟨rb, 0, none⟩), .pointer (some ⟨rb, 0, none⟩), .pointer (some ⟨rb, 1, none⟩), .slice (some ⟨g, off, none⟩) (t.length + 1) c, .int .i64 0, .int .i64 1, .slice (some ⟨g, off + 1, none⟩) 0 (c - 1), .func (.func 60) #[] #[.pointer (some ⟨w1.heap.size + 1, 0, none⟩)], .int .i64 (x.1 : Int), .int .u8 x.2, undef, undef, undef, undef, undef, undef, undef, undef, undef, undef, undef, undef, undef, undef, undef, undef, .bool false, .int .i64 0, .bool false, undef, undef, undef, undef, .bool (decide ((t.length : Int) + 1 ≤ 0)), .pointer (some ⟨rb, 0, none⟩), .pointer (some ⟨rb, 0, none⟩), .pointer (some ⟨rb, 1, none⟩), .slice (some ⟨g, off, none⟩) (t.length + 1) c, .int .i64 ((t.length : Int) + 1), .int .i64 0, .bool (decide ((t.length : Int) + 1 ≤ 0)), undef, undef, undef, undef, .bool false, .int .i64 0, .bool false, .bool false, undef, undef, undef, undef, undef, undef, undef, undef, .bool false, undef, undef, undef, undef], defers := [] }) ?assign ?body ?done ?stop
  case assign =>
    intro l x W K hK
    gi_wp2
    exact hK
  case body =>
    intro l pre x W _ hlt
    exact absurd hlt (Nat.not_lt_zero _)
  case done =>
    rintro D ys W hD rfl ⟨⟨hc, _⟩, hB⟩ hK
    have c1W := (hB.cell (p := ⟨rb, 1, none⟩) hrb).trans c1
    have f1W : W.frozen? ⟨rb, 1, none⟩ = false := by
      rw [World.frozen?_of_block (w := w1) (a := ⟨rb, 1, none⟩) (hB.block rb hrb)]
      exact free_of H.out.blk 1
    have hr : (⟨0, 0 :: t⟩ : Rd).num = (0, ⟨0, t⟩) := by simp [Rd.num, val]
    have hDl := (Array.getElem?_eq_some_iff.1 hK).1
    simp only [World.size_alloc] at hD
    gi_wp2
    all_goals
      refine ⟨by simp, .inl ⟨_, _, rfl, run_takeDeferred ((Below.heap_setCell W ⟨rb, 1, none⟩ _ D (by show D ≠ rb; omega)).trans hK), ?_⟩⟩
      refine ⟨_, results_tmp rfl _ _ _, ?_⟩
      unfold NumAt
      rw [hr]
    · have f := num_fin (n := 0) (t := t) (c := c) (by simpa using H.out) (Nat.zero_le _) hB (by omega) hDl (some ⟨g, off + 1, none⟩) (c - 1) (.inl rfl) (by omega) (.deferred none)
      simp only [Nat.sub_zero, List.drop_zero] at f
      exact ⟨by first | rfl | simp, _, _, f.1, f.2⟩
  case stop =>
    rintro D c pre W _ _ h _
    exact h.elim
set_option maxRecDepth 100000 in
set_option maxHeartbeats 4000000 in
theorem num_zero_full_at {w : World} {rb : Nat} {G : Option Nat} {a : Option Addr} (h : Rdr w rb G ⟨0, [0]⟩ a 1) :
    Calls Tryz.prog 20 #[.pointer (some ⟨rb, 0, none⟩)] w (NumAt rb G ⟨0, [0]⟩ w) := by
  have H1 := Lib.hid (none_no h.blk (m := true) rfl)
  have H2 := Lib.hid (ok_any h.blk (e := 0) rfl)
  obtain ⟨g, off, rfl, x0⟩ := h.row 0 (.int .u8 0) rfl
  have c1 := cell_of h.blk 1 (v := .slice (some ⟨g, off, none⟩) 1 1) rfl
  have hrb := lt_of_block h.blk
  have hgl := World.block_lt_of_cell? (a := ⟨g, off + 0, none⟩) w x0
  dsimp only at hgl
  have H := Lib.hid h
  clear h
  rw [Nat.add_zero] at x0
  refine (callsIn_wide (n := 3)).1 ?_
  refine callsIn_of_wp_marks Tryz.func20 rfl trivial ?_ rfl
  simp only [Tryz.ntmps20, List.size_toArray, List.length_cons, List.length_nil, Nat.reduceAdd, Nat.reduceSub, Array.replicate_succ, Array.replicate_zero, List.push_toArray, List.append_toArray, List.nil_append, List.cons_append]
  gi_wp2_with (first | (refine ⟨trivial, ?_⟩; gi_at_call 45; refine (callsIn_wide.2 H1.out).mono ?_; rintro e w1 ⟨rfl, rfl⟩) | (refine ⟨trivial, ?_⟩; gi_at_call 46; refine (callsIn_wide.2 H2.out).mono ?_; rintro e w1 ⟨rfl, rfl⟩) | (refine ⟨trivial, ?_⟩; gi_at_call 48; refine (backward_in _ _ trivial rfl _ _ _ _).mono ?_; rintro e w1 ⟨rfl, rfl⟩))
  have bS := Boxed.new w1 3 (.int .i64 0)
  have bN := Boxed.new (w1.alloc (.cells #[.int .i64 0] 3)) 22 (.slice (some ⟨g, off, none⟩) 0 0)
  rw [World.size_alloc] at bN
  have hB0 : Below w1.heap.size w1 ((w1.alloc (.cells #[.int .i64 0] 3)).alloc (.cells #[.slice (some ⟨g, off, none⟩) 0 0] 22)) := ((Below.refl _ w1).alloc (Nat.le_refl _) _).alloc (by simp) _
  have hbytes : ∀ j, j < 0 → ((w1.alloc (.cells #[.int .i64 0] 3)).alloc (.cells #[.slice (some ⟨g, off, none⟩) 0 0] 22)).cell? ⟨g, off + j, none⟩ = some (.int .u8 (([] : List Int)[j]?.getD 0)) := by
    intro j hj
    omega
  refine wpIn_rangeFunc_ownG rfl (by omega) (gf := 60) (lb := #[.pointer (some ⟨w1.heap.size + 1, 0, none⟩)]) rfl trivial (enters_of Tryz.func60 (by kernel_rfl) rfl)
    (backward_stops Fence.wide (3 - 1) trivial rfl (by omega) (w1.heap.size + 1) g off 0 0 [] (by omega) _ (by simp) (fun h => absurd rfl h) bN.cell hbytes) KB.trans (KB.put (by simp; omega) (by simp)) (Below.refl _ _) (fun _ => rfl)
    (fun pre W => (W.cell? ⟨w1.heap.size, 0, none⟩ = some (.int .i64 (fd pre)) ∧ W.frozen? ⟨w1.heap.size, 0, none⟩ = false) ∧ Below w1.heap.size w1 W)
    (fun _ _ _ => False)
    (OwnFrom.and (Own.from (fun s A B row hs hg hr => ⟨cell_kept hs.1 hg hr, (frozen_kept hs.1 hg hr).trans hs.2⟩) _) (ownFrom_below (Nat.le_refl _) (by simp; omega)))
    (fun _ _ _ _ _ hs _ _ => hs)
    ⟨⟨(bS.alloc _).cell, (bS.alloc _).frozen⟩, hB0⟩
    (fun x : Nat × Int => { tmps := #[.pointer (some ⟨rb, 0, none⟩), undef, .int .i64 0, .int .i64 0, .pointer (some ⟨w1.heap.size, 0, none⟩), undef, .int .u8 x.2, .pointer (some ⟨rb, 0, none⟩), .bool false, .bool false, .pointer (some ⟨rb, 0, none⟩), .pointer (some ⟨rb, 0, none⟩), .pointer (some ⟨rb, 0, none⟩), .bool true, .bool false, .bool false, .pointer (some ⟨rb, 0, none⟩), .pointer (some ⟨rb, 0, none⟩), .pointer (some ⟨rb, 1, none⟩), .slice (some ⟨g, off, none⟩) 1 1, .int .i64 1, .bool false, undef, undef, undef, undef, .pointer (some ⟨rb, 0, none⟩), .pointer (some ⟨rb, 0, none⟩), .pointer (some ⟨rb, 1, none⟩), .slice (some ⟨g, off, none⟩) 1 1, .pointer (some ⟨g, off, none⟩), .int .u8 0, .int .i64 0, .pointer (some ⟨rb, 0, none⟩), .pointer (some ⟨rb, 0, none⟩), .pointer (some ⟨rb, 1, none⟩), .slice (some ⟨g, off, none⟩) 1 1, .int .i64 0, .int .i64 1, .slice (some ⟨g, off, none⟩) 0 0, .func (.func 60) #[] #[.pointer (some ⟨w1.heap.size + 1, 0, none⟩)], .int .i64 (x.1 : Int), .int .u8 x.2, undef, undef, undef, undef, undef, undef, undef, undef, undef, undef, undef, undef, undef, undef, undef, undef, .bool false, .int .i64 0, .bool false, undef, undef, undef, undef, .bool false, .pointer (some ⟨rb, 0, none⟩), .pointer (some ⟨rb, 0, none⟩), .pointer (some ⟨rb, 1, none⟩), .slice (some ⟨g, off, none⟩) 1 1, .int .i64 1, .int .i64 0, .bool false, undef, undef, undef, undef, .bool false, .int .i64 0, .bool false, .bool false, undef, undef, undef, undef, undef, undef, undef, undef, .bool false, undef, undef, undef, undef], defers := [] }) ?assign ?body ?done ?stop
  case assign =>
    intro l x W K hK
    gi_wp2
    exact hK
  case body =>
    intro l pre x W _ hlt
    exact absurd hlt (Nat.not_lt_zero _)
  case done =>
    rintro D ys W hD rfl ⟨⟨hc, _⟩, hB⟩ hK
    have c1W := (hB.cell (p := ⟨rb, 1, none⟩) hrb).trans c1
    have f1W : W.frozen? ⟨rb, 1, none⟩ = false := by
      rw [World.frozen?_of_block (w := w1) (a := ⟨rb, 1, none⟩) (hB.block rb hrb)]
      exact free_of H.out.blk 1
    have hr : (⟨0, [0]⟩ : Rd).num = (0, ⟨0, []⟩) := by simp [Rd.num, val]
    have hDl := (Array.getElem?_eq_some_iff.1 hK).1
    simp only [World.size_alloc] at hD
    gi_wp2
    all_goals
      refine ⟨by simp, .inl ⟨_, _, rfl, run_takeDeferred ((Below.heap_setCell W ⟨rb, 1, none⟩ _ D (by show D ≠ rb; omega)).trans hK), ?_⟩⟩
      refine ⟨_, results_tmp rfl _ _ _, ?_⟩
      unfold NumAt
      rw [hr]
    · have f := num_fin (n := 0) (t := []) (c := 1) (by simpa using H.out) (Nat.le_refl _) hB (by omega) hDl (some ⟨g, off, none⟩) 0 (.inr ⟨rfl, rfl⟩) (by simp) (.deferred none)
      simp only [List.length_nil, Nat.sub_zero, List.drop_zero] at f
      exact ⟨by first | rfl | simp, _, _, f.1, f.2⟩
  case stop =>
    rintro D c pre W _ _ h _
    exact h.elim

/-- A number that comes: of whatever bytes. -/
theorem num_reads {w : World} {rb : Nat} {G : Option Nat} {r : Rd} {a : Option Addr} {c : Nat} (h : Rdr w rb G r a c) (hB : Byte r.b) (hm : r.b.length ≤ 140737488351231) :
    Calls Tryz.prog 20 #[.pointer (some ⟨rb, 0, none⟩)] w (NumAt rb G r w) := by
  by_cases he : r.e = 0
  · obtain ⟨e, b⟩ := r
    have he' : e = 0 := he
    subst he'
    cases b with
    | nil => exact num_end_at h
    | cons n t =>
      have hn := hB n (by simp)
      simp only [List.length_cons] at hm
      by_cases h6 : 6 < n
      · exact num_form_at h hn h6
      · by_cases hs : t.length < n.toNat
        · exact num_short_at h hn h6 hs
        · obtain ⟨k, rfl⟩ : ∃ k : Nat, n = k := ⟨n.toNat, by omega⟩
          have hBt : Byte t := fun x hx => hB x (by simp [hx])
          simp only [Int.toNat_natCast] at hs
          by_cases hk : k = 0
          · subst hk
            have h' : Rdr w rb G ⟨0, 0 :: t⟩ a c := by simpa using h
            have hcap : t.length + 1 ≤ c := h'.cap
            have goal : Calls Tryz.prog 20 #[.pointer (some ⟨rb, 0, none⟩)] w (NumAt rb G ⟨0, 0 :: t⟩ w) := by
              by_cases hc1 : c = 1
              · subst hc1
                obtain rfl : t = [] := List.eq_nil_of_length_eq_zero (by omega)
                exact num_zero_full_at h'
              · exact num_zero_good_at h' (by omega) hBt (by omega)
            simpa using goal
          · by_cases hz : t.getD (k - 1) 0 = 0
            · exact num_zero_at h hn h6 (by simpa using hs) (by omega) (by simpa using hz)
            · exact num_good_at h (by omega) (by omega) (by omega) hz hBt (by omega)
  · exact num_bad_at h he
end Go.Proofs.YtecohkoekifeiaaGreatDoor
