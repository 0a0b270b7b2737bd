/-
  machine.numbers, New, none, Sessions, Next, each walked once; the map.
-/
import Derived.Test.YtecohkoekifeiaaGreatDoorXj
import Derived.Shelf.SlIterI.Nil
import Derived.Shelf.SortM.Plain
import Derived.Shelf.SortM.SortNone
import Derived.Ground.GgzProg
import Derived.Ground.SlgmProg
import Derived.Shelf.SlGeneric
import Derived.Test.YtecohkoekifeiaaGreatDoorProg
set_option linter.all false
namespace Go.Proofs.YtecohkoekifeiaaGreatDoor
open Go.ChangeShapes Go.WideShapes Go.ChangeAt Go.RowKit
set_option linter.unusedVariables false
set_option linter.unusedSimpArgs false

def nats (l : List Nat) : List Value := l.map (fun (n : Nat) => Value.int .i64 (n : Int))

set_option maxRecDepth 100000 in
set_option maxHeartbeats 1600000 in
theorem mnumbers_any {w : World} {a : Option Addr} {zs : List Nat} (h : Row w a (nats zs)) (hz : ∀ z ∈ zs, z < 281474976710656) (hm : zs.length ≤ 1000) (c : Nat) :
    Calls Tryz.prog 40 #[.slice a zs.length c] w fun e w' => ∃ o co, e = .returned (.slice o (nby zs).length co) ∧ Owns w' w.heap.size 5 1 o (nby zs).length co (bytes (nby zs)) ∧ Kp (fun _ => False) w w' := by
  have H := Lib.hid h
  have HZ := Lib.hid hz
  clear h hz
  go_enter Tryz.func40, Tryz.ntmps40
  go_wp2_with fail
  go_loopw [3, 10] (fun s i wr => ∃ (k : Nat) (oa : Option Addr) (co : Nat) (A : List Int), i = .int .i64 k ∧ k ≤ zs.length ∧ s = .slice oa A.length co ∧ A = nby (zs.take k) ∧ Owns wr w.heap.size 5 1 oa A.length co (bytes A) ∧ Kp (fun _ => False) w wr) (fun _ i _ => zs.length - (intOf i).toNat)
  case atStart => exact ⟨0, none, 0, [], rfl, Nat.zero_le _, rfl, rfl, Owns.nil _ _ _ _, Kp.refl _ _⟩
  case round =>
    obtain ⟨k, oa, co, A, rfl, hk, rfl, hA, ho, hK⟩ := hrel
    have HO := Lib.hid ho
    have HK := Lib.hid hK
    have HA := Lib.hid hA
    by_cases hlt : k < zs.length
    · obtain ⟨z, hzk⟩ : ∃ z, zs[k]? = some z := ⟨zs[k], List.getElem?_eq_getElem hlt⟩
      obtain ⟨bb, off, rfl, hc⟩ : ∃ bb off, a = some ⟨bb, off, none⟩ ∧ wr.cell? ⟨bb, off + k, none⟩ = some (.int .i64 z) := (H.out.no hK) k _ (by simp [nats, hzk])
      have hzl := HZ.out z (List.mem_of_getElem? hzk)
      have hAl : A.length ≤ 9 * k := by
        rw [hA]
        refine Nat.le_trans (nby_len (fun y hy => HZ.out y (List.mem_of_mem_take hy))) ?_
        rw [List.length_take]
        omega
      have hn1 : nby (zs.take (k + 1)) = A ++ enc z := by
        rw [hA, List.take_add_one, hzk]
        simp [nby]
      have HN1 := Lib.hid hn1
      have HN := Lib.hid (putNumber_good wr z hzl)
      have hEl := enc_len (n := z) (by omega)
      have hkI : (k : Int) < (zs.length : Int) := by omega
      have hk0 : (0 : Int) ≤ (k : Int) := by omega
      clear ho hK hA hn1 hzk
      generalize (z : Int) = zz at hc HN
      go_wp2_with (go_at_call 33; refine Stop.mk ?_)
      unfold Stop
      refine (HN.out).mono ?_
      rintro e w4 ⟨o4, c4, rfl, ho4, hk4⟩
      have ho5 := HO.out.kp hk4 (fun _ _ h => h)
      have HO5 := Lib.hid ho5
      have HO4 := Lib.hid ho4
      have HK4 := Lib.hid (HK.out.trans hk4)
      clear ho4 hk4 ho5 hc HN
      generalize hE : enc z = E at HO4 HN1 hEl ⊢
      go_wp2_with (at_builtin; refine Stop.mk ?_)
      unfold Stop
      refine wpList_app rfl _ _ 22 rfl w.heap.size 5 info5 Tryz.underlying22 rfl (by decide) rfl HO5.out rfl (news := bytes E) (by simp [bytes]) HO4.out.row.news (one_bytes _) (by unfold maxLen; omega) (by omega) HK4.out.size ?_
      intro a6 c6 w6 ho6 hk6
      rw [show bytes A ++ bytes E = bytes (A ++ E) by simp [bytes], show A.length + E.length = (A ++ E).length by simp] at ho6
      rw [show A.length + E.length = (A ++ E).length by simp]
      have hK6 : Kp (fun _ => False) w w6 := HK4.out.andThen hk6 (fun i hi e => by have := (Owns.from HO5.out e.symm).1; omega)
      generalize A ++ E = AE at ho6 HN1 ⊢
      have HO6 := Lib.hid ho6
      have HK6 := Lib.hid hK6
      clear ho6 hk6 hK6
      go_wp2
      go_roundw
      case rel => exact ⟨k + 1, a6, c6, AE, by go_num, by omega, rfl, HN1.out.symm, HO6.out, HK6.out⟩
      case measure => simp [intOf]; omega
    · obtain rfl : k = zs.length := by omega
      have hz2 : A = nby zs := by rw [hA, List.take_length]
      have HZ2 := Lib.hid hz2
      clear ho hK hA hz2
      go_wp2_with fail
      go_ret
      refine ⟨oa, co, by rw [← HZ2.out]; rfl, ?_, HK.out⟩
      rw [← HZ2.out]
      exact HO.out

end Go.Proofs.YtecohkoekifeiaaGreatDoor
namespace Go.Proofs.YtecohkoekifeiaaGreatDoor
open Go.ChangeShapes Go.WideShapes Go.ChangeAt Go.RowKit
set_option linter.unusedVariables false
set_option linter.unusedSimpArgs false

@[local go_sem] theorem mapnil (mm : Nat) (w : World) : (binOp BinOp.eql 87 (.map (some mm)) (.map none)).run Tryz.prog w = .ok (.bool false) w := by kernel_rfl

/-- A machine's block. -/
def machV (span applied start : Nat) (l : Option Addr) (n c mm : Nat) : Array Value := #[.int .i64 span, .int .i64 applied, .int .i64 start, .slice l n c, .map (some mm)]

set_option maxRecDepth 100000 in
set_option maxHeartbeats 800000 in
theorem mNew_any (w : World) : Calls Tryz.prog 37 #[.int .i64 100] w fun e w' => e = .returned (.tuple #[.pointer (some ⟨w.heap.size + 1, 0, none⟩), .int .i64 0]) ∧ w'.heap[w.heap.size]? = some (.map #[] 0) ∧ w'.heap[w.heap.size + 1]? = some (.cells (machV 100 0 0 none 0 0 w.heap.size) 89 (0, 0)) ∧ w'.heap.size = w.heap.size + 2 ∧ Kp (fun _ => False) w w' := by
  have hmm := @run_makeMap Tryz.prog
  go_enter Tryz.func37, Tryz.ntmps37
  go_wp2
  refine bodyPost_ret (v := .tuple #[.pointer (some ⟨w.heap.size + 1, 0, none⟩), .int .i64 0]) (by simp [results, Tryz.results37, go_sem]) rfl ⟨rfl, heap_old _ (heap_new w _), ?_, by simp, ((Kp.refl _ w).alloc _).alloc _⟩
  have := heap_new (w.alloc (.map #[] 0)) (.cells (machV 100 0 0 none 0 0 w.heap.size) 89)
  rw [World.size_alloc] at this
  exact this

set_option maxRecDepth 100000 in
set_option maxHeartbeats 800000 in
theorem mnone_any {w : World} {b mm : Nat} (h : w.cell? ⟨b, 4, none⟩ = some (.map (some mm))) : Calls Tryz.prog 39 #[.pointer (some ⟨b, 0, none⟩)] w fun e w' => e = .returned (.bool false) ∧ w' = w := by
  go_enter Tryz.func39, Tryz.ntmps39
  go_wp2
  go_ret
  exact ⟨rfl, rfl⟩

set_option maxRecDepth 100000 in
set_option maxHeartbeats 800000 in
theorem mnone_nil (w : World) : Calls Tryz.prog 39 #[.pointer none] w fun e w' => e = .returned (.bool true) ∧ w' = w := by
  go_enter Tryz.func39, Tryz.ntmps39
  go_wp2
  go_ret
  exact ⟨rfl, rfl⟩
end Go.Proofs.YtecohkoekifeiaaGreatDoor
namespace Go.Proofs
open Go.Shelf
def Tryz.keysA_ren : Go.Shelf.Ren := ⟨fun | 7 => 54 | 10 => 66 | n => n, fun | 23 => 87 | 26 => 3 | 3 => 90 | 28 => 113 | 0 => 0 | 27 => 112 | 33 => 135 | 4 => 4 | n => n, fun | n => n⟩
theorem Tryz.keysA : Go.Proofs.SlLaysZI.n7 Tryz.prog Tryz.keysA_ren := {
  mixed := by kernel_rfl
  f7 := ⟨Tryz.f54.name, by decide, Tryz.func54.trans (congrArg some (by kernel_rfl))⟩
  f10 := ⟨Tryz.f66.name, by decide, Tryz.func66.trans (congrArg some (by kernel_rfl))⟩
  t0 := Tryz.underlying0
  a0 := Tryz.isAgg0
  z0 := Tryz.sizeOf0
  v0 := Tryz.zeroValue0
  t4 := Tryz.underlying4
  a4 := Tryz.isAgg4
  z4 := Tryz.sizeOf4
  v4 := Tryz.zeroValue4
  t23 := Tryz.underlying87
  a23 := Tryz.isAgg87
  z23 := Tryz.sizeOf87
  v23 := Tryz.zeroValue87
  t26 := Tryz.underlying3
  a26 := Tryz.isAgg3
  z26 := Tryz.sizeOf3
  v26 := Tryz.zeroValue3
  t27 := Tryz.underlying112
  a27 := Tryz.isAgg112
  z27 := Tryz.sizeOf112
  v27 := Tryz.zeroValue112
  t28 := Tryz.underlying113
  a28 := Tryz.isAgg113
  z28 := Tryz.sizeOf113
  v28 := Tryz.zeroValue113
  t33 := Tryz.underlying135
  a33 := Tryz.isAgg135
  z33 := Tryz.sizeOf135
  v33 := Tryz.zeroValue135 }
def Tryz.sortedA_ren : Go.Shelf.Ren := ⟨fun | 6 => 53 | 8 => 64 | 9 => 65 | 11 => 75 | 13 => 77 | 12 => 76 | 23 => 107 | 24 => 108 | 14 => 98 | 15 => 99 | 16 => 100 | 17 => 101 | 18 => 102 | 19 => 103 | 20 => 104 | 21 => 105 | 22 => 106 | 25 => 164 | 26 => 165 | 27 => 166 | 28 => 167 | 29 => 168 | 30 => 169 | 31 => 253 | n => n, fun | 26 => 3 | 28 => 113 | 24 => 31 | 0 => 0 | 3 => 3 | 37 => 103 | 48 => 109 | 50 => 210 | 4 => 4 | 40 => 201 | 39 => 200 | 45 => 206 | 5 => 5 | 9 => 9 | 51 => 255 | 55 => 70 | 57 => 344 | 58 => 341 | 33 => 135 | n => n, fun | n => n⟩
theorem Tryz.sortedA : Go.Proofs.SlLaysZI.n6 Tryz.prog Tryz.sortedA_ren := {
  mixed := by kernel_rfl
  f6 := ⟨Tryz.f53.name, by decide, Tryz.func53.trans (congrArg some (by kernel_rfl))⟩
  f8 := ⟨Tryz.f64.name, by decide, Tryz.func64.trans (congrArg some (by kernel_rfl))⟩
  f11 := ⟨Tryz.f75.name, by decide, Tryz.func75.trans (congrArg some (by kernel_rfl))⟩
  t0 := Tryz.underlying0
  a0 := Tryz.isAgg0
  z0 := Tryz.sizeOf0
  v0 := Tryz.zeroValue0
  t24 := Tryz.underlying31
  a24 := Tryz.isAgg31
  z24 := Tryz.sizeOf31
  v24 := Tryz.zeroValue31
  t26 := Tryz.underlying3
  a26 := Tryz.isAgg3
  z26 := Tryz.sizeOf3
  v26 := Tryz.zeroValue3
  t28 := Tryz.underlying113
  a28 := Tryz.isAgg113
  z28 := Tryz.sizeOf113
  v28 := Tryz.zeroValue113
  i26 := by kernel_rfl }
def Tryz.sortA_ren : Go.Shelf.Ren := ⟨fun | 5 => 65 | 8 => 77 | 7 => 76 | 19 => 107 | 20 => 108 | 10 => 98 | 11 => 99 | 12 => 100 | 13 => 101 | 14 => 102 | 15 => 103 | 16 => 104 | 17 => 105 | 18 => 106 | 30 => 164 | 31 => 165 | 32 => 166 | 33 => 167 | 34 => 168 | 35 => 169 | 40 => 253 | n => n, fun | 23 => 31 | 25 => 3 | 3 => 3 | 32 => 103 | 22 => 31 | 0 => 0 | 44 => 109 | 46 => 210 | 4 => 4 | 36 => 201 | 35 => 200 | 41 => 206 | 5 => 5 | 9 => 9 | 53 => 255 | 57 => 70 | 63 => 344 | 64 => 341 | n => n, fun | n => n⟩
theorem Tryz.sortA : Go.Proofs.SlLaysM.n5 Tryz.prog Tryz.sortA_ren := {
  mixed := by kernel_rfl
  f5 := ⟨Tryz.f65.name, by decide, Tryz.func65.trans (congrArg some (by kernel_rfl))⟩
  f7 := ⟨Tryz.f76.name, by decide, Tryz.func76.trans (congrArg some (by kernel_rfl))⟩
  f8 := Tryz.func77.trans (congrArg some (by kernel_rfl))
  f10 := ⟨Tryz.f98.name, by decide, Tryz.func98.trans (congrArg some (by kernel_rfl))⟩
  f11 := ⟨Tryz.f99.name, by decide, Tryz.func99.trans (congrArg some (by kernel_rfl))⟩
  f12 := ⟨Tryz.f100.name, by decide, Tryz.func100.trans (congrArg some (by kernel_rfl))⟩
  f13 := ⟨Tryz.f101.name, by decide, Tryz.func101.trans (congrArg some (by kernel_rfl))⟩
  f14 := ⟨Tryz.f102.name, by decide, Tryz.func102.trans (congrArg some (by kernel_rfl))⟩
  f15 := ⟨Tryz.f103.name, by decide, Tryz.func103.trans (congrArg some (by kernel_rfl))⟩
  f16 := ⟨Tryz.f104.name, by decide, Tryz.func104.trans (congrArg some (by kernel_rfl))⟩
  f17 := ⟨Tryz.f105.name, by decide, Tryz.func105.trans (congrArg some (by kernel_rfl))⟩
  f18 := ⟨Tryz.f106.name, by decide, Tryz.func106.trans (congrArg some (by kernel_rfl))⟩
  f19 := Tryz.func107.trans (congrArg some (by kernel_rfl))
  f20 := Tryz.func108.trans (congrArg some (by kernel_rfl))
  f30 := ⟨Tryz.f164.name, by decide, Tryz.func164.trans (congrArg some (by kernel_rfl))⟩
  f31 := Tryz.func165.trans (congrArg some (by kernel_rfl))
  f32 := Tryz.func166.trans (congrArg some (by kernel_rfl))
  f33 := ⟨Tryz.f167.name, by decide, Tryz.func167.trans (congrArg some (by kernel_rfl))⟩
  f34 := ⟨Tryz.f168.name, by decide, Tryz.func168.trans (congrArg some (by kernel_rfl))⟩
  f35 := ⟨Tryz.f169.name, by decide, Tryz.func169.trans (congrArg some (by kernel_rfl))⟩
  f40 := ⟨Tryz.f253.name, by decide, Tryz.func253.trans (congrArg some (by kernel_rfl))⟩
  t0 := Tryz.underlying0
  a0 := Tryz.isAgg0
  z0 := Tryz.sizeOf0
  v0 := Tryz.zeroValue0
  t3 := Tryz.underlying3
  a3 := Tryz.isAgg3
  z3 := Tryz.sizeOf3
  v3 := Tryz.zeroValue3
  t4 := Tryz.underlying4
  a4 := Tryz.isAgg4
  z4 := Tryz.sizeOf4
  v4 := Tryz.zeroValue4
  t5 := Tryz.underlying5
  a5 := Tryz.isAgg5
  z5 := Tryz.sizeOf5
  v5 := Tryz.zeroValue5
  t9 := Tryz.underlying9
  a9 := Tryz.isAgg9
  z9 := Tryz.sizeOf9
  v9 := Tryz.zeroValue9
  t22 := Tryz.underlying31
  a22 := Tryz.isAgg31
  z22 := Tryz.sizeOf31
  v22 := Tryz.zeroValue31
  t23 := Tryz.underlying31
  a23 := Tryz.isAgg31
  z23 := Tryz.sizeOf31
  v23 := Tryz.zeroValue31
  t25 := Tryz.underlying3
  a25 := Tryz.isAgg3
  z25 := Tryz.sizeOf3
  v25 := Tryz.zeroValue3
  t32 := Tryz.underlying103
  a32 := Tryz.isAgg103
  z32 := Tryz.sizeOf103
  v32 := Tryz.zeroValue103
  t35 := Tryz.underlying200
  a35 := Tryz.isAgg200
  z35 := Tryz.sizeOf200
  v35 := Tryz.zeroValue200
  t36 := Tryz.underlying201
  a36 := Tryz.isAgg201
  z36 := Tryz.sizeOf201
  v36 := Tryz.zeroValue201
  t41 := Tryz.underlying206
  a41 := Tryz.isAgg206
  z41 := Tryz.sizeOf206
  v41 := Tryz.zeroValue206
  t44 := Tryz.underlying109
  a44 := Tryz.isAgg109
  z44 := Tryz.sizeOf109
  v44 := Tryz.zeroValue109
  t46 := Tryz.underlying210
  a46 := Tryz.isAgg210
  z46 := Tryz.sizeOf210
  v46 := Tryz.zeroValue210
  t53 := Tryz.underlying255
  a53 := Tryz.isAgg255
  z53 := Tryz.sizeOf255
  v53 := Tryz.zeroValue255
  t57 := Tryz.underlying70
  a57 := Tryz.isAgg70
  z57 := Tryz.sizeOf70
  v57 := Tryz.zeroValue70
  t63 := Tryz.underlying344
  a63 := Tryz.isAgg344
  z63 := Tryz.sizeOf344
  v63 := Tryz.zeroValue344
  t64 := Tryz.underlying341
  a64 := Tryz.isAgg341
  z64 := Tryz.sizeOf341
  v64 := Tryz.zeroValue341 }
end Go.Proofs
namespace Go.Proofs.YtecohkoekifeiaaGreatDoor
open Go.RowKit Go.Maps Go.Sort Go.Shelf
set_option linter.unusedVariables false
set_option linter.unusedSimpArgs false

theorem sortsA (m : Nat) : AnyZI.SortsIn Tryz.prog Tryz.sortedA_ren Fence.wide m :=
  ⟨fun blk off cap ss W hH hblk hsz => callsIn_wide.2 (AnyM.slices_Sort_int Tryz.sortA blk off cap ss W hH hblk hsz),
   fun p cap W => callsIn_wide.2 (AnyM.slices_Sort_int_none Tryz.sortA p cap W)⟩

set_option maxRecDepth 100000 in
set_option maxHeartbeats 1000000 in
theorem sessions_any {H : Type} (b mm nn : Nat) (D0 : DataW H) (R : Value → Option (DataW H × List MemPlace)) (w : World) (h : w.cell? ⟨b, 4, none⟩ = some (.map (some mm))) (hown : w.ownsMap Tryz.prog 3 R mm nn D0) (hmax : Maps.size D0 ≤ maxLen) (hbytes : Maps.size D0 * 8 ≤ 140737488355328) :
    Calls Tryz.prog 42 #[.pointer (some ⟨b, 0, none⟩)] w fun e w' => ∃ (v : Value) (ss : List Int), e = .returned v ∧ ss.Perm (intKeys D0) ∧
      w'.ownsRow w.heap.size 3 1 v ss.length ((ss.mergeSort (fun x y => decide (x ≤ y))).map encZ) ∧ (v = .slice none 0 0 ↔ ss = []) ∧ Below w.heap.size w w' := by
  refine (callsIn_wide (n := 6)).1 ?_
  have hbl := hown.lt
  have hseq : SeqGives Fence.wide 2 Tryz.prog 66 #[.pointer (some ⟨w.heap.size, 0, none⟩)] encZ (fun ss => ss.Perm (intKeys D0)) (Maps.size D0) (w.alloc (.cells #[.map (some mm)] 87)) :=
    AnyZI.keys_gives (ρ := Tryz.keysA_ren) { Tryz.keysA with } Fence.wide _ trivial rfl (by omega) w.heap.size mm nn D0 _ (by simp) (by simp) (by
      obtain ⟨es, clock, hb, Ft, hs, hD⟩ := hown
      exact ⟨es, clock, (Below.heap_alloc _ _ mm hbl).trans hb, Ft, hs, hD⟩)
  have cK : ∀ mb W, CallsIn Fence.wide 5 Tryz.prog 54 #[.map mb] W fun e w' => e = .returned (.func (.func 66) #[] #[.pointer (some ⟨W.heap.size, 0, none⟩)]) ∧ w' = W.alloc (.cells #[.map mb] 87) := fun mb W => AnyZI.keys_in Tryz.keysA Fence.wide 5 trivial rfl mb W
  have cS := AnyZI.sorted_in Tryz.sortedA Fence.wide 5 trivial trivial trivial trivial rfl (by omega) (sortsA _) (enters_of Tryz.func65 (by kernel_rfl) rfl) 66 #[.pointer (some ⟨w.heap.size, 0, none⟩)] trivial (enters_of Tryz.func66 (by kernel_rfl) rfl) _ _ hmax hbytes _ hseq
  change CallsIn _ _ Tryz.prog 53 _ _ _ at cS
  have hfK : Fence.wide.fn 54 := trivial
  have hfS : Fence.wide.fn 53 := trivial
  have hfN : Fence.wide.fn 39 := trivial
  have HN := Lib.hid (mnone_any h)
  refine callsIn_of_wp Tryz.func42 rfl trivial ?_ rfl
  simp only [Tryz.ntmps42, List.size_toArray, List.length_cons, List.length_nil, Nat.reduceAdd, Nat.reduceSub, Array.replicate_succ, Array.replicate_zero, List.push_toArray, List.append_toArray, List.nil_append, List.cons_append]
  gi_wp2_with (first
    | (gi_at_call 39; refine (callsIn_wide.2 HN.out).mono ?_; rintro e w ⟨rfl, rfl⟩)
    | (gi_at_call 54; refine (cK _ _).mono ?_; rintro e w' ⟨rfl, rfl⟩)
    | (gi_at_call 53; refine cS.mono ?_; rintro e w' ⟨v, ss, rfl, hS, hrow, hnil, hb⟩))
  go_ret
  exact ⟨v, ss, rfl, hS, ownsRow_base_a hrow (by simp), hnil, ((Below.refl _ w).alloc (Nat.le_refl _) _).trans (hb.mono (by simp))⟩
end Go.Proofs.YtecohkoekifeiaaGreatDoor
namespace Go.Proofs.YtecohkoekifeiaaGreatDoor
open Go.RowKit Go.Maps Go.Sort Go.Shelf
set_option linter.unusedVariables false
set_option linter.unusedSimpArgs false

/-- Each key of the list is a number. -/
def IntKeys (es : List MapEntry) : Prop := ∀ e ∈ es, ∃ y, e.key = .int .i64 y

theorem findNow_none {z : Int} : ∀ {es : List MapEntry} {i : Nat}, (∀ e ∈ es, ∃ y, e.key = .int .i64 y ∧ y ≠ z) → Instr.findNow (.int .i64) (.int .i64 z) es i = some none
  | [], i, _ => rfl
  | e :: r, i, h => by
    obtain ⟨y, hy, hne⟩ := h e (by simp)
    have hb : (z == y) = false := by simpa using fun e => hne e.symm
    simp only [Instr.findNow, hy, Instr.sameNow, if_true, hb]
    exact findNow_none fun e' he => h e' (by simp [he])

theorem findNow_hit {z : Int} : ∀ {es : List MapEntry} {i j : Nat} {e : MapEntry}, es[j]? = some e → e.key = .int .i64 z → (∀ p, p < j → ∀ e', es[p]? = some e' → ∃ y, e'.key = .int .i64 y ∧ y ≠ z) → Instr.findNow (.int .i64) (.int .i64 z) es i = some (some (i + j, e.val))
  | [], i, j, e, h, _, _ => by simp at h
  | x :: r, i, 0, e, h, hk, _ => by
    simp only [List.getElem?_cons_zero, Option.some.injEq] at h
    subst h
    simp [Instr.findNow, hk, Instr.sameNow]
  | x :: r, i, j + 1, e, h, hk, hp => by
    obtain ⟨y, hy, hne⟩ := hp 0 (by omega) x rfl
    have hb : (z == y) = false := by simpa using fun e => hne e.symm
    simp only [Instr.findNow, hy, Instr.sameNow, if_true, hb]
    have := findNow_hit (i := i + 1) (by simpa using h) hk (fun p hpj e' he => hp (p + 1) (by omega) e' (by simpa using he))
    rw [this, show i + 1 + j = i + (j + 1) by omega]

theorem run_getObj_map {w : World} {r : Nat} {es : Array MapEntry} {c : Nat} (h : w.heap[r]? = some (.map es c)) : (getObj r).run Tryz.prog w = .ok (.map es c) w := by simp [getObj, Sem.run, h]
theorem run_setObj_map {w : World} {r : Nat} {es : Array MapEntry} {c : Nat} (o : Obj) (h : w.heap[r]? = some (.map es c)) : (setObj r o).run Tryz.prog w = .ok () (w.putObj r o) := by simp [setObj, Sem.run, h, World.putObj]
theorem under87 : Tryz.prog.underlying 87 = some (.map 3 90) := Tryz.underlying87
theorem under3 : Tryz.prog.underlying 3 = some (.int .i64) := Tryz.underlying3
theorem checkKey3 (z : Int) (w : World) : (Instr.checkKey false 10000 3 (.int .i64 z)).run Tryz.prog w = .ok () w := by kernel_rfl
theorem checkKey3b (b : Bool) (z : Int) (w : World) : (Instr.checkKey b 10000 3 (.int .i64 z)).run Tryz.prog w = .ok () w := by cases b <;> kernel_rfl
theorem zero90 (w : World) : (zeroValue 90).run Tryz.prog w = .ok (.pointer none) w := by kernel_rfl

theorem run_mapEntry_new {w : World} {r : Nat} {es : Array MapEntry} {c : Nat} {z : Int} (h : w.heap[r]? = some (.map es c)) (hk : ∀ e ∈ es.toList, ∃ y, e.key = .int .i64 y ∧ y ≠ z) :
    (Instr.mapEntry 87 (.map (some r)) (.int .i64 z)).run Tryz.prog w = .ok (.tuple #[.pointer none, .int .i64 c]) (w.putObj r (.map (es.push ⟨.int .i64 z, .pointer none, c⟩) (c + 1))) := by
  simp [Instr.mapEntry, Sem.run_bind, run_underlying under87, Result.andThen, run_getObj_map h, checkKey3, Instr.findKey, run_underlying under3, findNow_none hk, zero90, run_setObj_map _ h, goInt]

theorem run_lookup_hit {w : World} {r : Nat} {es : Array MapEntry} {c j : Nat} {z : Int} {e : MapEntry} (h : w.heap[r]? = some (.map es c)) (hj : es.toList[j]? = some e) (hk : e.key = .int .i64 z) (hp : ∀ p, p < j → ∀ e', es.toList[p]? = some e' → ∃ y, e'.key = .int .i64 y ∧ y ≠ z) :
    (Instr.lookup 87 (.map (some r)) (.int .i64 z) false).run Tryz.prog w = .ok e.val w := by
  simp [Instr.lookup, Sem.run_bind, run_underlying under87, Result.andThen, run_getObj_map h, checkKey3b, Instr.findKey, run_underlying under3, findNow_hit hj hk hp]

theorem findIdx_new {es : Array MapEntry} {c : Nat} {k v : Value} (hb : ∀ e ∈ es.toList, e.born < c) : (es.push ⟨k, v, c⟩).findIdx? (fun e => ((e.born : Int) == (c : Int))) = some es.size := by
  have h1 : es.findIdx? (fun e => ((e.born : Int) == (c : Int))) = none := by
    rw [Array.findIdx?_eq_none_iff]
    intro e he
    have := hb e (by simpa using he)
    have hne : ¬ ((e.born : Int) = (c : Int)) := by omega
    simpa using hne
  rw [Array.findIdx?_push, h1]
  simp

theorem run_entryStore_new {w : World} {r : Nat} {es : Array MapEntry} {c c' : Nat} {k v u : Value} (h : w.heap[r]? = some (.map (es.push ⟨k, v, c⟩) c')) (hb : ∀ e ∈ es.toList, e.born < c) :
    (Instr.entryStore 87 (.map (some r)) (.int .i64 c) u).run Tryz.prog w = .ok () (w.putObj r (.map (es.push ⟨k, u, c⟩) c')) := by
  have hm : (es.push ⟨k, v, c⟩).modify es.size (fun e => { e with val := u }) = es.push ⟨k, u, c⟩ := by
    apply Array.ext
    · simp
    · intro i h1 h2
      rw [Array.getElem_modify]
      by_cases hi : es.size = i
      · subst hi
        simp
      · have hlt : i < es.size := by
          simp at h1
          omega
        rw [if_neg hi, Array.getElem_push_lt hlt, Array.getElem_push_lt hlt]
  simp [Instr.entryStore, Sem.run_bind, Result.andThen, run_getObj_map h, asInt, asIntOf, findIdx_new hb, run_setObj_map _ h, hm]
end Go.Proofs.YtecohkoekifeiaaGreatDoor
namespace Go.Proofs.YtecohkoekifeiaaGreatDoor
open Go.RowKit Go.Maps Go.Shelf Go.WideShapes Go.ChangeShapes
open Go.WideElems (Fit rd rg pl rd_val rg_of)
set_option linter.unusedVariables false
set_option linter.unusedSimpArgs false

/-- A session: its number and its three, and where these lie. -/
structure Se where
  id : Nat
  b : Nat
  s : Nat
  n : Nat
  l : Nat
/-- The map's entries. -/
def mapEs (l : List Se) : List MapEntry := l.mapIdx fun i e => ⟨.int .i64 (e.id : Int), .pointer (some ⟨e.b, 0, none⟩), i⟩
theorem mapEs_at {l : List Se} {i : Nat} {e : Se} (h : l[i]? = some e) : (mapEs l)[i]? = some ⟨.int .i64 (e.id : Int), .pointer (some ⟨e.b, 0, none⟩), i⟩ := by
  simp [mapEs, List.getElem?_mapIdx, h]
theorem mapEs_snoc (l : List Se) (e : Se) : mapEs (l ++ [e]) = mapEs l ++ [⟨.int .i64 (e.id : Int), .pointer (some ⟨e.b, 0, none⟩), l.length⟩] := by
  simp [mapEs, List.mapIdx_append]
theorem mapEs_mem {l : List Se} {x : MapEntry} (h : x ∈ mapEs l) : ∃ e ∈ l, x.key = .int .i64 (e.id : Int) ∧ x.val = .pointer (some ⟨e.b, 0, none⟩) ∧ x.born < l.length := by
  obtain ⟨i, hi, rfl⟩ := List.mem_iff_getElem.1 h
  have hl : i < l.length := by simpa [mapEs] using hi
  exact ⟨l[i], List.getElem_mem hl, by simp [mapEs], by simp [mapEs], by simpa [mapEs] using hl⟩

/-- How a pointer reads: of no weight here. -/
def rk : Value → Option (DataW Unit × List MemPlace) := fun _ => some (.lit (.bool true), [])

theorem rd_at {x : MapEntry} {z : Nat} (hk : x.key = .int .i64 (z : Int)) (hz : z < 9223372036854775808) : rd Tryz.prog 3 rk x = some (.int .i64 (z : Int), .lit (.bool true)) := by
  have hw : (Lit.int .i64 (z : Int)).wf = true := WalkArith.wf_i64 (by omega)
  simp [rd, hk, keyOf_int_mk Tryz.underlying3 hw, rk]

theorem owns_map {w : World} {mm : Nat} {l : List Se} (h : w.heap[mm]? = some (.map (mapEs l).toArray l.length)) (hid : (l.map Se.id).Pairwise (· < ·)) (hw : ∀ e ∈ l, e.id < 9223372036854775808) (hl : l.length ≤ 1000) :
    ∃ D0 : DataW Unit, w.ownsMap Tryz.prog 3 rk mm l.length D0 ∧ Maps.size D0 = l.length ∧ (intKeys D0).Perm (l.map fun e => (e.id : Int)) := by
  have hlen : (mapEs l).length = l.length := by simp [mapEs]
  have hrg : (mapEs l).map (rg Tryz.prog 3 rk) = l.map fun e => (Lit.int .i64 (e.id : Int), (DataW.lit (.bool true) : DataW Unit)) := by
    apply List.ext_getElem?
    intro i
    cases he : l[i]? with
    | none =>
      have h1 : l.length ≤ i := List.getElem?_eq_none_iff.1 he
      rw [List.getElem?_eq_none (by simp [hlen, h1]), List.getElem?_eq_none (by simp [h1])]
    | some e =>
      rw [List.getElem?_map, mapEs_at he, List.getElem?_map, he]
      simp only [Option.map_some, Option.some.injEq]
      exact rg_of (rd_at rfl (hw e (List.mem_of_getElem? he)))
  refine ⟨_, ⟨(mapEs l).toArray, l.length, h, ⟨by simp [hlen, maxLen]; omega, ⟨?_, ?_, ?_⟩, ?_⟩, by simp [hlen], rfl⟩, ?_, ?_⟩
  · intro x hx
    obtain ⟨e, _, _, _, h3⟩ := mapEs_mem (by simpa using hx)
    exact h3
  · have e : (mapEs l).toArray.toList.map (·.born) = List.range l.length := by
      rw [List.toList_toArray]
      apply List.ext_getElem?
      intro i
      cases he : l[i]? with
      | none =>
        have h1 : l.length ≤ i := List.getElem?_eq_none_iff.1 he
        rw [List.getElem?_eq_none (by simp [hlen, h1]), List.getElem?_eq_none (by simp [h1])]
      | some e =>
        have h1 : i < l.length := (List.getElem?_eq_some_iff.1 he).1
        rw [List.getElem?_map, mapEs_at he, List.getElem?_range h1]
        rfl
    rw [e]
    exact List.nodup_range
  · have e : (mapEs l).toArray.toList.map (·.key) = (l.map Se.id).map (fun n => Value.int .i64 (n : Nat)) := by
      rw [List.toList_toArray]
      apply List.ext_getElem?
      intro i
      cases he : l[i]? with
      | none =>
        have h1 : l.length ≤ i := List.getElem?_eq_none_iff.1 he
        rw [List.getElem?_eq_none (by simp [hlen, h1]), List.getElem?_eq_none (by simp [h1])]
      | some e =>
        rw [List.getElem?_map, mapEs_at he, List.getElem?_map, List.getElem?_map, he]
        rfl
    rw [e]
    refine List.Pairwise.map _ (fun a b hab hh => ?_) hid
    simp only [Value.int.injEq, true_and] at hh
    omega
  · intro x hx
    obtain ⟨e, he, h1, _, _⟩ := mapEs_mem (by simpa using hx)
    exact ⟨_, rd_at h1 (hw e he)⟩
  · rw [size_eq, length_sorted]
    simp [hlen]
  · show (((mapEs l).toArray.toList.map (rg Tryz.prog 3 rk)).foldr DataW.insert []).map _ |>.Perm _
    rw [List.toList_toArray, hrg]
    refine ((sorted_perm _).map _).trans ?_
    rw [List.map_map]
    refine List.Perm.of_eq (List.map_congr_left fun a _ => rfl)

theorem sess_rows {w : World} {b mm : Nat} {l : List Se} (h4 : w.cell? ⟨b, 4, none⟩ = some (.map (some mm))) (h : w.heap[mm]? = some (.map (mapEs l).toArray l.length)) (hid : (l.map Se.id).Pairwise (· < ·)) (hw : ∀ e ∈ l, e.id < 9223372036854775808) (hl : l.length ≤ 1000) :
    Calls Tryz.prog 42 #[.pointer (some ⟨b, 0, none⟩)] w fun e w' => ∃ o co, e = .returned (.slice o l.length co) ∧ Owns w' w.heap.size 3 1 o l.length co (ints (l.map fun e => (e.id : Int))) ∧ Kp (fun _ => False) w w' := by
  obtain ⟨D0, hown, hsz, hp⟩ := owns_map h hid hw hl
  refine (sessions_any b mm l.length D0 rk w h4 hown (by rw [hsz]; unfold maxLen; omega) (by rw [hsz]; omega)).mono ?_
  rintro e w' ⟨v, ss, rfl, hS, hrow, _, hb⟩
  have hP : ss.Perm (l.map fun e => (e.id : Int)) := hS.trans hp
  have hlen : ss.length = l.length := by rw [hP.length_eq, List.length_map]
  have hsort : ss.mergeSort (fun x y => decide (x ≤ y)) = l.map fun e => (e.id : Int) := by
    have h1 : ss.mergeSort leI = (l.map fun e => (e.id : Int)).mergeSort leI := mergeSort_of_perm_i hP
    have h2 : (l.map fun e => (e.id : Int)).mergeSort leI = l.map fun e => (e.id : Int) := by
      apply List.mergeSort_of_pairwise
      have h3 : (l.map fun e => (e.id : Int)) = (l.map Se.id).map (fun n : Nat => (n : Int)) := by rw [List.map_map]; rfl
      rw [h3]
      refine List.Pairwise.map _ (fun a b hab => ?_) hid
      simp only [leI, decide_eq_true_eq]
      omega
    exact h1.trans h2
  rw [hsort, hlen] at hrow
  obtain ⟨o, co, rfl, ho⟩ := Owns.shape hrow
  refine ⟨o, co, rfl, ?_, ⟨hb.os, hb.tape, hb.output, hb.size, fun j hj _ => hb.block j hj⟩⟩
  exact ho
end Go.Proofs.YtecohkoekifeiaaGreatDoor
namespace Go.Proofs.YtecohkoekifeiaaGreatDoor
open Go.ChangeShapes Go.WideShapes Go.ChangeAt Go.RowKit
set_option linter.unusedVariables false
set_option linter.unusedSimpArgs false

set_option maxRecDepth 100000 in
set_option maxHeartbeats 800000 in
theorem mNext_any {w : World} {b span applied start n c mm : Nat} {l : Option Addr} (h : w.heap[b]? = some (.cells (machV span applied start l n c mm) 89 (0, 0))) (hs : start < 1099511627776) (hn : n ≤ 16777216) :
    Calls Tryz.prog 41 #[.pointer (some ⟨b, 0, none⟩)] w fun e w' => e = .returned (.int .i64 (start + n : Nat)) ∧ Kp (fun _ => False) w w' := by
  have c2 := cell_of h 2 (v := .int .i64 start) rfl
  have c3 := cell_of h 3 (v := .slice l n c) rfl
  have c2d : w.drew.cell? ⟨b, 2, none⟩ = some (.int .i64 start) := c2
  have c3d : w.drew.cell? ⟨b, 3, none⟩ = some (.slice l n c) := c3
  have HN := Lib.hid (mnone_any (cell_of h 4 (v := .map (some mm)) rfl))
  have hsum : IntKind.i64.wrap ((start : Int) + (n : Int)) = ((start + n : Nat) : Int) := by
    rw [IntKind.wrap_i64]
    omega
  clear h hs hn
  go_enter Tryz.func41, Tryz.ntmps41
  go_wp2_with (go_at_call 39; refine (HN.out).mono ?_; rintro e w ⟨rfl, rfl⟩)
  refine wp_region_held_drew (S := fun w' => w'.cell? ⟨b, 2, none⟩ = some (.int .i64 start) ∧ w'.cell? ⟨b, 3, none⟩ = some (.slice l n c)) (by kernel_rfl) ⟨c2d, c3d⟩ (fun hHeld => ?_)
  refine wpAnyH_take (i := 0) (v := ?_) rfl (by kernel_rfl) (by kernel_rfl) (by kernel_rfl) (fun _ _ _ h => h) (Or.inl ⟨by rfl, ?_⟩) (by assumption) ?_
  rotate_left
  · intro w hSw
    go_simp
    try with_reducible rfl
  try simp only [Act.put, List.getElem_toArray, List.getElem_cons_zero, List.getElem_cons_succ, List.setIfInBounds_toArray, List.set_cons_zero, List.set_cons_succ]
  refine wpAnyH_take (i := 1) (v := ?_) rfl (by kernel_rfl) (by kernel_rfl) (by kernel_rfl) (fun _ _ _ h => h) (Or.inl ⟨by rfl, ?_⟩) (by assumption) ?_
  rotate_left
  · intro w hSw
    go_simp
    try with_reducible rfl
  try simp only [Act.put, List.getElem_toArray, List.getElem_cons_zero, List.getElem_cons_succ, List.setIfInBounds_toArray, List.set_cons_zero, List.set_cons_succ]
  refine wpAnyH_take (i := 2) (v := ?_) rfl (by kernel_rfl) (by kernel_rfl) (by kernel_rfl) (fun _ _ _ h => h) (Or.inl ⟨by rfl, ?_⟩) (by assumption) ?_
  rotate_left
  · intro w hSw
    go_simp
    try with_reducible rfl
  try simp only [Act.put, List.getElem_toArray, List.getElem_cons_zero, List.getElem_cons_succ, List.setIfInBounds_toArray, List.set_cons_zero, List.set_cons_succ]
  refine wpAnyH_take (i := 3) (v := .int .i64 start) rfl (by kernel_rfl) (by kernel_rfl) (by kernel_rfl) (fun _ _ _ h => h) (Or.inl ⟨by rfl, ?_⟩) (by assumption) ?_
  · intro w hSw
    have hc := hSw.1
    go_simp
    try with_reducible rfl
  try simp only [Act.put, List.getElem_toArray, List.getElem_cons_zero, List.getElem_cons_succ, List.setIfInBounds_toArray, List.set_cons_zero, List.set_cons_succ]
  refine wpAnyH_take (i := 4) (v := ?_) rfl (by kernel_rfl) (by kernel_rfl) (by kernel_rfl) (fun _ _ _ h => h) (Or.inl ⟨by rfl, ?_⟩) (by assumption) ?_
  rotate_left
  · intro w hSw
    go_simp
    try with_reducible rfl
  try simp only [Act.put, List.getElem_toArray, List.getElem_cons_zero, List.getElem_cons_succ, List.setIfInBounds_toArray, List.set_cons_zero, List.set_cons_succ]
  refine wpAnyH_take (i := 5) (v := ?_) rfl (by kernel_rfl) (by kernel_rfl) (by kernel_rfl) (fun _ _ _ h => h) (Or.inl ⟨by rfl, ?_⟩) (by assumption) ?_
  rotate_left
  · intro w hSw
    go_simp
    try with_reducible rfl
  try simp only [Act.put, List.getElem_toArray, List.getElem_cons_zero, List.getElem_cons_succ, List.setIfInBounds_toArray, List.set_cons_zero, List.set_cons_succ]
  refine wpAnyH_take (i := 6) (v := ?_) rfl (by kernel_rfl) (by kernel_rfl) (by kernel_rfl) (fun _ _ _ h => h) (Or.inl ⟨by rfl, ?_⟩) (by assumption) ?_
  rotate_left
  · intro w hSw
    go_simp
    try with_reducible rfl
  try simp only [Act.put, List.getElem_toArray, List.getElem_cons_zero, List.getElem_cons_succ, List.setIfInBounds_toArray, List.set_cons_zero, List.set_cons_succ]
  refine wpAnyH_take (i := 7) (v := .slice l n c) rfl (by kernel_rfl) (by kernel_rfl) (by kernel_rfl) (fun _ _ _ h => h) (Or.inl ⟨by rfl, ?_⟩) (by assumption) ?_
  · intro w hSw
    have hc := hSw.2
    go_simp
    try with_reducible rfl
  try simp only [Act.put, List.getElem_toArray, List.getElem_cons_zero, List.getElem_cons_succ, List.setIfInBounds_toArray, List.set_cons_zero, List.set_cons_succ]
  refine wpAnyH_take (i := 8) (v := ?_) rfl (by kernel_rfl) (by kernel_rfl) (by kernel_rfl) (fun _ _ _ h => h) (Or.inl ⟨by rfl, ?_⟩) (by assumption) ?_
  rotate_left
  · intro w hSw
    go_simp
    try with_reducible rfl
  try simp only [Act.put, List.getElem_toArray, List.getElem_cons_zero, List.getElem_cons_succ, List.setIfInBounds_toArray, List.set_cons_zero, List.set_cons_succ]
  refine wpAnyH_take (i := 9) (v := ?_) rfl (by kernel_rfl) (by kernel_rfl) (by kernel_rfl) (fun _ _ _ h => h) (Or.inl ⟨by rfl, ?_⟩) (by assumption) ?_
  rotate_left
  · intro w hSw
    go_simp
    try with_reducible rfl
  try simp only [Act.put, List.getElem_toArray, List.getElem_cons_zero, List.getElem_cons_succ, List.setIfInBounds_toArray, List.set_cons_zero, List.set_cons_succ]
  refine wpAnyH_take (i := 10) (v := ?_) rfl (by kernel_rfl) (by kernel_rfl) (by kernel_rfl) (fun _ _ _ h => h) (Or.inl ⟨by rfl, ?_⟩) (by assumption) ?_
  rotate_left
  · intro w hSw
    go_simp
    try with_reducible rfl
  try simp only [Act.put, List.getElem_toArray, List.getElem_cons_zero, List.getElem_cons_succ, List.setIfInBounds_toArray, List.set_cons_zero, List.set_cons_succ]
  refine wpAnyH_done (by kernel_rfl) ?_ _
  go_wp2
  go_ret
  exact ⟨congrArg (fun z => Ending.returned (Value.int IntKind.i64 z)) (show (start : Int) + (n : Int) = ((start + n : Nat) : Int) by omega), (Kp.refl _ _).drew⟩
end Go.Proofs.YtecohkoekifeiaaGreatDoor
namespace Go.Proofs.YtecohkoekifeiaaGreatDoor
open Go.RowKit
set_option linter.unusedVariables false

section
variable {P : Program} {ops : Array Oper} {Q : Exit → Act → World → Prop} {md : Region.Mode} {S : World → Prop}
theorem tk (i : Nat) {oi : Oper} {v : Value} {fuel : Nat} {listed : Array Bool} {a : Act} {w : World} (hi : ops[i]? = some oi)
    (hy : ∀ w, S w → (execOp a.eval oi).run P w = .ok (.value v) w) (hS : S w)
    (h : wpAnyH P md ops Q S fuel (listed.setIfInBounds i true) (a.put oi.dst v) w)
    (hs : Region.noSelect ops = true := by kernel_rfl) (hf : Region.free md ops listed i = true := by kernel_rfl) (hr : (Region.ready md ops listed).contains i = true := by kernel_rfl)
    (hQ : ∀ c a w, Q (.panic c) (a.put oi.dst v) w → Q (.panic c) a w := by exact fun _ _ _ h => h) (hw : Region.wanted oi (yielded ops a.tmps) = true := by rfl) : wpAnyH P md ops Q S (fuel + 1) listed a w :=
  wpAnyH_take hi hs hf hr hQ (.inl ⟨hw, hy⟩) hS h
theorem rdy (i : Nat) {o : Oper} {fuel : Nat} {listed : Array Bool} {a : Act} {w : World} (hr : Region.ready md ops listed = [i]) (ho : ops[i]? = some o)
    (h : ∀ K' : Act → World → Prop, Shut (∀ a w, S w → (S w → wpAnyH P md ops Q S fuel (listed.setIfInBounds i true) a w) → K' a w) → if Region.wanted o (yielded ops a.tmps) = true then Oper.wp P o a w K' Q else K' (a.put o.dst undef) w) : wpAnyH P md ops Q S (fuel + 1) listed a w :=
  wpAnyH_ready hr (by simp) (AllReadyH.cons ho h AllReadyH.nil)
end
end Go.Proofs.YtecohkoekifeiaaGreatDoor
