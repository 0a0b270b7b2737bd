/-
  GetEntry, PutEntry, the frame and stable.Put, each walked once.
-/
import Derived.Test.YtecohkoekifeiaaGreatDoorXc
import Derived.Test.YtecohkoekifeiaaGreatDoorXb
set_option linter.all false
namespace Go.Proofs.YtecohkoekifeiaaGreatDoor
open Go.ChangeShapes Go.WideShapes Go.ChangeAt Go.RowKit
set_option linter.unusedVariables false

/-- An entry's bytes say it whole, and it may be written. -/
def fitE (b : List Int) : Prop := (getE b).2.e = 0 ∧ (getE b).2.b = [] ∧ okE (getE b).1 = true
def GetEAt (b : List Int) (w : World) (e : Ending) (w' : World) : Prop :=
  Kp (fun _ => False) w w' ∧ ((¬ fitE b ∧ e = .returned (.tuple #[.agg #[.int .i64 0, .int .i64 0, .int .i64 0, .slice none 0 0], .int .i64 21])) ∨
    ∃ o co, fitE b ∧ e = .returned (.tuple #[enV (getE b).1 o co, .int .i64 0]) ∧ Owns w' w.heap.size 5 1 o (getE b).1.data.length co (bytes (getE b).1.data))

theorem bytes_lt {r : Rd} : r.bytes.2.b.length ≤ r.b.length ∧ r.bytes.1.length ≤ r.b.length := by
  have hn := @num_lt r
  unfold Rd.bytes
  split
  · split
    · split
      · simp
      · split
        · simp
        · simp only [List.length_drop, List.length_take]
          omega
    · simp
  · simp

set_option maxRecDepth 100000 in
set_option maxHeartbeats 8000000 in
theorem getEntry_any {w : World} {a : Option Addr} {b : List Int} (h : Row w a (bytes b)) (hB : Byte b) (hm : b.length ≤ 140737488351231) (c : Nat) :
    Calls Tryz.prog 4 #[.slice a b.length c] w (GetEAt b w) := by
  have HN := Lib.hid (new_in (w := (w.alloc (.cells #[.int .i64 0, .int .i64 0, .int .i64 0, .slice none 0 0] 24))) (h.no ((Kp.refl _ _).alloc _)) (by omega) c)
  clear h
  have hg : getE b = (⟨(⟨0, b⟩ : Rd).num.1, (⟨0, b⟩ : Rd).num.2.num.1, (⟨0, b⟩ : Rd).num.2.num.2.num.1, (⟨0, b⟩ : Rd).num.2.num.2.num.2.bytes.1⟩, (⟨0, b⟩ : Rd).num.2.num.2.num.2.bytes.2) := rfl
  have HG := Lib.hid hg
  clear hg
  go_enter Tryz.func4, Tryz.ntmps4
  go_wp2_with (go_at_call 19; refine Stop.mk ?_)
  unfold Stop
  refine (HN.out).mono ?_
  rintro e w1 ⟨rb, G, o1, co1, rfl, hr1, hrb, hG, hk1⟩
  have HU := Lib.hid (num_reads hr1 hB (by omega))
  have HR1 := Lib.hid hr1
  have HK1 := Lib.hid hk1
  have HGG := Lib.hid hG
  clear hr1 hk1 hG
  go_wp2_with (go_at_call 20; refine Stop.mk ?_)
  unfold Stop
  refine (HU.out).mono ?_
  rintro e w2 ⟨rfl, a2, c2, hr2, hk2⟩
  have hb2 : Byte (⟨0, b⟩ : Rd).num.2.b := Rd.num_byte hB
  have hl2 : (⟨0, b⟩ : Rd).num.2.b.length ≤ b.length := num_lt (r := ⟨0, b⟩)
  generalize (⟨0, b⟩ : Rd).num = q1 at hr2 hb2 hl2 HG ⊢
  obtain ⟨n1, q1⟩ := q1
  dsimp only at hr2 hb2 hl2 HG ⊢
  have HU2 := Lib.hid (num_reads hr2 hb2 (by omega))
  have HR2 := Lib.hid hr2
  have HK2 := Lib.hid hk2
  clear hr2 hk2 HU HN
  go_wp2_with (go_at_call 20; refine Stop.mk ?_)
  unfold Stop
  refine (HU2.out).mono ?_
  rintro e w3 ⟨rfl, a3, c3, hr3, hk3⟩
  have hb3 : Byte q1.num.2.b := Rd.num_byte hb2
  have hl3 : q1.num.2.b.length ≤ b.length := Nat.le_trans num_lt hl2
  generalize q1.num = q2 at hr3 hb3 hl3 HG ⊢
  obtain ⟨n2, q2⟩ := q2
  dsimp only at hr3 hb3 hl3 HG ⊢
  have HU3 := Lib.hid (num_reads hr3 hb3 (by omega))
  have HR3 := Lib.hid hr3
  have HK3 := Lib.hid hk3
  clear hr3 hk3 HU2
  go_wp2_with (go_at_call 20; refine Stop.mk ?_)
  unfold Stop
  refine (HU3.out).mono ?_
  rintro e w4 ⟨rfl, a4, c4, hr4, hk4⟩
  have hb4 : Byte q2.num.2.b := Rd.num_byte hb3
  have hl4 : q2.num.2.b.length ≤ b.length := Nat.le_trans num_lt hl3
  generalize q2.num = q3 at hr4 hb4 hl4 HG ⊢
  obtain ⟨n3, q3⟩ := q3
  dsimp only at hr4 hb4 hl4 HG ⊢
  have HU4 := Lib.hid (bytes_reads hr4 hb4 (by omega))
  have HR4 := Lib.hid hr4
  have HK4 := Lib.hid hk4
  clear hr4 hk4 HU3
  go_wp2_with (go_at_call 21; refine Stop.mk ?_)
  unfold Stop
  refine (HU4.out).mono ?_
  rintro e w5 ⟨o5, co5, rfl, ho5, a5, c5, hr5, hk5⟩
  have hb5 := Rd.bytes_byte hb4
  have hl5 := @bytes_lt q3
  generalize q3.bytes = q4 at hr5 ho5 hb5 hl5 HG ⊢
  obtain ⟨d, q4⟩ := q4
  dsimp only at hr5 ho5 hb5 hl5 HG ⊢
  have HR5 := Lib.hid hr5
  have HK5 := Lib.hid hk5
  have HO5 := Lib.hid ho5
  have HE := Lib.hid (end_any (w := w5.alloc (.cells #[.int .i64 n1, .int .i64 n2, .int .i64 n3, .slice o5 d.length co5] 24)) (hr5.kp ((Kp.refl (fun _ => False) _).alloc _) (fun h => h) (fun _ _ h => h)))
  have HRi := Lib.hid (right_any (w := w5.alloc (.cells #[.int .i64 n1, .int .i64 n2, .int .i64 n3, .slice o5 d.length co5] 24)) (x := ⟨n1, n2, n3, d⟩) (ho5.row.no ((Kp.refl _ _).alloc _)) hb5.2 (by have := hl5.2; dsimp only; omega) co5)
  have hT1 : w1.heap[w.heap.size]? = some (.cells #[.int .i64 0, .int .i64 0, .int .i64 0, .slice none 0 0] 24 (0, 0)) := HK1.out.heap (heap_new w _) (fun h => h)
  have hrb' : w.heap.size + 1 ≤ rb := by simpa using hrb
  have hT5 : w5.heap[w.heap.size]? = some (.cells #[.int .i64 0, .int .i64 0, .int .i64 0, .slice none 0 0] 24 (0, 0)) :=
    HK5.out.heap (HK4.out.heap (HK3.out.heap (HK2.out.heap hT1 (by omega)) (by omega)) (by omega)) (by omega)
  have hT6 : (w5.alloc (.cells #[.int .i64 n1, .int .i64 n2, .int .i64 n3, .slice o5 d.length co5] 24)).heap[w.heap.size]? = some (.cells #[.int .i64 0, .int .i64 0, .int .i64 0, .slice none 0 0] 24 (0, 0)) := heap_old _ hT5
  have hV6 : (w5.alloc (.cells #[.int .i64 n1, .int .i64 n2, .int .i64 n3, .slice o5 d.length co5] 24)).heap[w5.heap.size]? = some (.cells #[.int .i64 n1, .int .i64 n2, .int .i64 n3, .slice o5 d.length co5] 24 (0, 0)) := heap_new _ _
  have HKA : Kp (fun k => k = rb) w1 w5 := ((HK2.out.trans HK3.out).trans HK4.out).trans HK5.out
  have hw1 : w.heap.size + 1 ≤ w1.heap.size := by have := HK1.out.size; simpa using this
  have HKB : Kp (fun k => w.heap.size ≤ k) w (w5.alloc (.cells #[.int .i64 n1, .int .i64 n2, .int .i64 n3, .slice o5 d.length co5] 24)) :=
    ((((Kp.refl _ _).alloc _).no.trans HK1.out.no).trans (HKA.eq (by omega))).alloc _
  have HKC := Lib.hid HKB
  have hfit : fitE b ↔ (q4.e = 0 ∧ q4.b = [] ∧ okE ⟨n1, n2, n3, d⟩ = true) := by unfold fitE; rw [HG.out]
  have HF := Lib.hid hfit
  have h5sz : w1.heap.size ≤ w5.heap.size := HKA.size
  have hgap : w.heap.size < w5.heap.size := by omega
  have h45 : w.heap.size ≤ w4.heap.size := by have := HK2.out.size; have := HK3.out.size; have := HK4.out.size; omega
  have HW4 := Lib.hid (show w.heap.size < w4.heap.size by have := HK2.out.size; have := HK3.out.size; have := HK4.out.size; omega)
  clear hr5 hk5 ho5 HU4 hT1 hT5 HKA HKB hfit HR1 HR2 HR3 HR4 HK1 HK2 HK3 HK4 HGG
  generalize hw6 : w5.alloc (.cells #[.int .i64 n1, .int .i64 n2, .int .i64 n3, .slice o5 d.length co5] 24) = w6 at HE HRi hT6 hV6 HKC
  have HO6 := Lib.hid (show Owns w6 w4.heap.size 5 1 o5 d.length co5 (bytes d) from hw6 ▸ HO5.out.kp ((Kp.refl (fun _ => False) _).alloc _) (fun _ _ h => h))
  have HW6 := Lib.hid hw6
  clear hw6 HO5
  go_wp2_with (first | (go_at_call 22; refine Stop.mk ?_) | (go_at_call 23; refine Stop.mk ?_))
  unfold Stop
  rw [HW6.out]
  refine (HE.out).mono ?_
  rintro e w7 ⟨rfl, rfl⟩
  have HT6 := Lib.hid hT6
  have hlt6 : w.heap.size < w7.heap.size := lt_of_block hT6
  by_cases hE : q4.e = 0 ∧ q4.b = []
  · obtain ⟨hE1, hE2⟩ := hE
    rw [hE1, hE2]
    have d0 := cell_of hV6 0 rfl
    have d1 := cell_of hV6 1 rfl
    have d2 := cell_of hV6 2 rfl
    have d3 := cell_of hV6 3 rfl
    have HV6 := Lib.hid hV6
    clear hT6 hV6
    go_wp2_with (first | (go_at_call 23; refine Stop.mk ?_))
    unfold Stop
    refine (HRi.out).mono ?_
    rintro e w8 ⟨rfl, hk8⟩
    have hT8 := hk8.heap HT6.out (fun h => h)
    have hV8 := hk8.heap HV6.out (fun h => h)
    have hne8 : w5.heap.size ≠ w.heap.size := by omega
    have HK8 := Lib.hid (HKC.out.trans (Kp.no (B := w.heap.size) hk8))
    have HO8 := Lib.hid (HO6.out.kp hk8 (fun _ _ h => h))
    have hlt8 : w.heap.size < w8.heap.size := lt_of_block hT8
    have c0 := cell_of hT8 0 rfl
    have c1 := cell_of hT8 1 rfl
    have c2 := cell_of hT8 2 rfl
    have c3 := cell_of hT8 3 rfl
    have f0 := free_of hT8 0
    have f1 := free_of hT8 1
    have f2 := free_of hT8 2
    have f3 := free_of hT8 3
    clear d0 d1 d2 d3
    have d0 := cell_of hV8 0 rfl
    have d1 := cell_of hV8 1 rfl
    have d2 := cell_of hV8 2 rfl
    have d3 := cell_of hV8 3 rfl
    cases hok : okE ⟨n1, n2, n3, d⟩ with
    | false =>
      have s0 := heap_set hT8 0 (.int .i64 0)
      have s1 := heap_set s0 1 (.int .i64 0)
      have s2 := heap_set s1 2 (.int .i64 0)
      have s3 := heap_set s2 3 (.slice none 0 0)
      have S3 := Lib.hid s3
      have HOK := Lib.hid hok
      clear s0 s1 s2 s3 hT8 hV8 hk8 hok
      go_wp2_with fail
      have e0 := cell_of S3.out 0 rfl
      have e1 := cell_of S3.out 1 rfl
      have e2 := cell_of S3.out 2 rfl
      have e3 := cell_of S3.out 3 rfl
      have hkz := ((((HK8.out.setCell (p := ⟨w.heap.size, 0, none⟩) (.inl (Nat.le_refl _)) (.int .i64 0)).setCell (p := ⟨w.heap.size, 1, none⟩) (.inl (Nat.le_refl _)) (.int .i64 0)).setCell (p := ⟨w.heap.size, 2, none⟩) (.inl (Nat.le_refl _)) (.int .i64 0)).setCell (p := ⟨w.heap.size, 3, none⟩) (.inl (Nat.le_refl _)) (.slice none 0 0)).fin
      generalize (((w8.setCell ⟨w.heap.size, 0, none⟩ (Value.int IntKind.i64 0)).setCell ⟨w.heap.size, 1, none⟩ (Value.int IntKind.i64 0)).setCell ⟨w.heap.size, 2, none⟩ (Value.int IntKind.i64 0)).setCell ⟨w.heap.size, 3, none⟩ (Value.slice none 0 0) = wz at e0 e1 e2 e3 hkz ⊢
      refine bodyPost_ret (v := .tuple #[.agg #[.int .i64 0, .int .i64 0, .int .i64 0, .slice none 0 0], .int .i64 21]) (by simp [results, Tryz.results4, go_sem, e0, e1, e2, e3]) rfl ⟨hkz, .inl ⟨fun hf => ?_, rfl⟩⟩
      have := (HF.out.1 hf).2.2
      rw [HOK.out] at this
      cases this
    | true =>
      have s0 := heap_set hT8 0 (.int .i64 n1)
      have s1 := heap_set s0 1 (.int .i64 n2)
      have s2 := heap_set s1 2 (.int .i64 n3)
      have s3 := heap_set s2 3 (.slice o5 d.length co5)
      have S3 := Lib.hid s3
      have HOK := Lib.hid (HF.out.2 ⟨hE1, hE2, hok⟩)
      clear s0 s1 s2 s3 hT8 hV8 hk8 hok
      go_wp2_with fail
      have e0 := cell_of S3.out 0 rfl
      have e1 := cell_of S3.out 1 rfl
      have e2 := cell_of S3.out 2 rfl
      have e3 := cell_of S3.out 3 rfl
      have hkz := ((((HK8.out.setCell (p := ⟨w.heap.size, 0, none⟩) (.inl (Nat.le_refl _)) (.int .i64 n1)).setCell (p := ⟨w.heap.size, 1, none⟩) (.inl (Nat.le_refl _)) (.int .i64 n2)).setCell (p := ⟨w.heap.size, 2, none⟩) (.inl (Nat.le_refl _)) (.int .i64 n3)).setCell (p := ⟨w.heap.size, 3, none⟩) (.inl (Nat.le_refl _)) (.slice o5 d.length co5)).fin
      have hkt : Kp (fun k => k = w.heap.size) w8 ((((w8.setCell ⟨w.heap.size, 0, none⟩ (.int .i64 n1)).setCell ⟨w.heap.size, 1, none⟩ (.int .i64 n2)).setCell ⟨w.heap.size, 2, none⟩ (.int .i64 n3)).setCell ⟨w.heap.size, 3, none⟩ (.slice o5 d.length co5)) :=
        (((((Kp.refl (fun k => k = w.heap.size) w8).setCell (p := ⟨w.heap.size, 0, none⟩) (.inl rfl) (.int .i64 n1)).setCell (p := ⟨w.heap.size, 1, none⟩) (.inl rfl) (.int .i64 n2)).setCell (p := ⟨w.heap.size, 2, none⟩) (.inl rfl) (.int .i64 n3)).setCell (p := ⟨w.heap.size, 3, none⟩) (.inl rfl) (.slice o5 d.length co5))
      generalize (((w8.setCell ⟨w.heap.size, 0, none⟩ (Value.int IntKind.i64 n1)).setCell ⟨w.heap.size, 1, none⟩ (Value.int IntKind.i64 n2)).setCell ⟨w.heap.size, 2, none⟩ (Value.int IntKind.i64 n3)).setCell ⟨w.heap.size, 3, none⟩ (Value.slice o5 d.length co5) = wz at e0 e1 e2 e3 hkz hkt ⊢
      refine bodyPost_ret (v := .tuple #[.agg #[.int .i64 n1, .int .i64 n2, .int .i64 n3, .slice o5 d.length co5], .int .i64 0]) (by simp [results, Tryz.results4, go_sem, e0, e1, e2, e3]) rfl ⟨hkz, .inr ⟨o5, co5, HOK.out, ?_, ?_⟩⟩
      · rw [HG.out]; rfl
      · rw [HG.out]
        exact (HO8.out.kp hkt (fun g hg e => by have := (HO8.out.from hg).1; have := HW4.out; omega)).low h45
  · have hEv : (if q4.e ≠ 0 then q4.e else if q4.b.length = 0 then 0 else 21) ≠ (0 : Int) := by
      split
      · assumption
      · rename_i h1
        have h1' : q4.e = 0 := by omega
        rw [if_neg (fun h2 => hE ⟨h1', List.length_eq_zero_iff.1 h2⟩)]
        decide
    generalize (if q4.e ≠ 0 then q4.e else if q4.b.length = 0 then 0 else 21) = ev at hEv ⊢
    have c0 := cell_of hT6 0 rfl
    have c1 := cell_of hT6 1 rfl
    have c2 := cell_of hT6 2 rfl
    have c3 := cell_of hT6 3 rfl
    have f0 := free_of hT6 0
    have f1 := free_of hT6 1
    have f2 := free_of hT6 2
    have f3 := free_of hT6 3
    have s0 := heap_set hT6 0 (.int .i64 0)
    have s1 := heap_set s0 1 (.int .i64 0)
    have s2 := heap_set s1 2 (.int .i64 0)
    have s3 := heap_set s2 3 (.slice none 0 0)
    have S3 := Lib.hid s3
    clear s0 s1 s2 s3 hT6 hV6
    go_wp2_with fail
    have e0 := cell_of S3.out 0 rfl
    have e1 := cell_of S3.out 1 rfl
    have e2 := cell_of S3.out 2 rfl
    have e3 := cell_of S3.out 3 rfl
    have hkz := ((((HKC.out.setCell (p := ⟨w.heap.size, 0, none⟩) (.inl (Nat.le_refl _)) (.int .i64 0)).setCell (p := ⟨w.heap.size, 1, none⟩) (.inl (Nat.le_refl _)) (.int .i64 0)).setCell (p := ⟨w.heap.size, 2, none⟩) (.inl (Nat.le_refl _)) (.int .i64 0)).setCell (p := ⟨w.heap.size, 3, none⟩) (.inl (Nat.le_refl _)) (.slice none 0 0)).fin
    generalize (((w7.setCell ⟨w.heap.size, 0, none⟩ (Value.int IntKind.i64 0)).setCell ⟨w.heap.size, 1, none⟩ (Value.int IntKind.i64 0)).setCell ⟨w.heap.size, 2, none⟩ (Value.int IntKind.i64 0)).setCell ⟨w.heap.size, 3, none⟩ (Value.slice none 0 0) = wz at e0 e1 e2 e3 hkz ⊢
    refine bodyPost_ret (v := .tuple #[.agg #[.int .i64 0, .int .i64 0, .int .i64 0, .slice none 0 0], .int .i64 21]) (by simp [results, Tryz.results4, go_sem, e0, e1, e2, e3]) rfl ⟨hkz, .inl ⟨fun hf => hE ?_, rfl⟩⟩
    have := HF.out.1 hf
    exact ⟨this.1, this.2.1⟩
end Go.Proofs.YtecohkoekifeiaaGreatDoor
namespace Go.Proofs.YtecohkoekifeiaaGreatDoor
open Go.ChangeShapes Go.WideShapes Go.ChangeAt Go.RowKit
set_option linter.unusedVariables false
set_option linter.unusedSimpArgs false

theorem Kp.oldno {B : Nat} {w w' : World} (h : Kp (fun _ => False) w w') : Kp (fun k => B ≤ k) w w' := h.no

set_option maxRecDepth 100000 in
set_option maxHeartbeats 8000000 in
theorem putEntry_bad {w : World} {a : Option Addr} {x : En} (h : Row w a (bytes x.data)) (hB : Byte x.data) (hm : x.data.length ≤ 140737488351231) (c : Nat) (hno : okE x = false) :
    Calls Tryz.prog 5 #[enV x a c] w fun e w' => e = .returned (.tuple #[.slice none 0 0, .int .i64 1]) ∧ Kp (fun _ => False) w w' := by
  have HR := Lib.hid (right_any (w := w.alloc (.cells #[.int .i64 x.term, .int .i64 x.index, .int .i64 x.kind, .slice a x.data.length c] 24)) (h.no ((Kp.refl _ _).alloc _)) hB hm c)
  rw [hno] at HR
  unfold enV at HR ⊢
  clear h hB hm hno
  obtain ⟨t, i, k, d⟩ := x
  dsimp only at HR ⊢
  generalize (t : Int) = tz at HR ⊢
  generalize (i : Int) = iz at HR ⊢
  generalize (k : Int) = kz at HR ⊢
  generalize d.length = n at HR ⊢
  go_enter Tryz.func5, Tryz.ntmps5
  go_wp2_with (go_at_call 23; refine (HR.out).mono ?_; rintro e w1 ⟨rfl, hk⟩; have HK := Lib.hid hk; clear hk)
  exact bodyPost_ret (v := .tuple #[.slice none 0 0, .int .i64 1]) (by simp [results, Tryz.results5, go_sem]) rfl ⟨rfl, ((Kp.refl _ _).alloc _).trans HK.out⟩

theorem okE_data {x : En} (h : okE x = true) : x.term < 1099511627776 ∧ x.index < 1099511627776 ∧ x.kind < 4 := by
  unfold okE at h
  split at h
  · cases h
  · rename_i hb
    refine ⟨by omega, by omega, ?_⟩
    split at h
    · omega
    · split at h
      · omega
      · split at h
        · omega
        · cases h

set_option maxRecDepth 100000 in
set_option maxHeartbeats 8000000 in
theorem putEntry_good {w : World} {a : Option Addr} {x : En} (h : Row w a (bytes x.data)) (hB : Byte x.data) (hm : x.data.length ≤ 1048576) (c : Nat) (hok : okE x = true) :
    Calls Tryz.prog 5 #[enV x a c] w fun e w' => ∃ o co, e = .returned (.tuple #[.slice o (putE x).length co, .int .i64 0]) ∧ Owns w' w.heap.size 5 1 o (putE x).length co (bytes (putE x)) ∧ Kp (fun _ => False) w w' := by
  have HR := Lib.hid (right_any (w := w.alloc (.cells #[.int .i64 x.term, .int .i64 x.index, .int .i64 x.kind, .slice a x.data.length c] 24)) (h.no ((Kp.refl _ _).alloc _)) hB (by omega) c)
  rw [hok] at HR
  have hp : putE x = enc x.term ++ enc x.index ++ enc x.kind ++ encB x.data := rfl
  have hn : x.term < 1099511627776 ∧ x.index < 1099511627776 ∧ x.kind < 4 := okE_data hok
  unfold enV at HR ⊢
  rw [hp]
  have H := Lib.hid h
  clear h hB hok hp
  obtain ⟨t, i, k, d⟩ := x
  dsimp only at HR H hm hn ⊢
  go_enter Tryz.func5, Tryz.ntmps5
  go_wp2_with (first | (go_at_call 23; refine Stop.mk ?_) | (go_at_call 24; refine Stop.mk ?_))
  unfold Stop
  refine (HR.out).mono ?_
  rintro e w1 ⟨rfl, hk⟩
  have b1 := hk.heap (heap_new w _) (fun h => h)
  have hl1 := lt_of_block b1
  have c0 := cell_of b1 0 rfl
  have c1 := cell_of b1 1 rfl
  have c2 := cell_of b1 2 rfl
  have c3 := cell_of b1 3 rfl
  have HPB := Lib.hid (putBytes_good ((H.out.no ((Kp.refl _ _).alloc _)).no hk) hm c)
  have HK := Lib.hid hk
  have HB1 := Lib.hid b1
  clear hk b1
  go_wp2_with (first | (go_at_call 23; refine Stop.mk ?_) | (go_at_call 24; refine Stop.mk ?_))
  unfold Stop
  refine (HPB.out).mono ?_
  rintro e w2 ⟨o2, co2, rfl, ho2, hk2⟩
  have b2 := hk2.heap HB1.out (fun h => h)
  have HO2 := Lib.hid ho2
  have HK2 := Lib.hid hk2
  have HB2 := Lib.hid b2
  clear c0 c1 c2 c3 hk2 ho2 b2
  go_wp2_with fail
  obtain ⟨X, hX⟩ : ∃ X, X = w.heap.size := ⟨_, rfl⟩
  have hB0 := HB2.out
  have hkw : Kp (fun _ => False) w w2.drew := ((((Kp.refl _ _).alloc _).trans HK.out).trans HK2.out).drew
  have HKW := Lib.hid hkw
  have hod : Owns w2.drew w1.heap.size 5 1 o2 (encB d).length co2 (bytes (encB d)) := HO2.out
  have HOD := Lib.hid hod
  have HW1 := Lib.hid (show w.heap.size ≤ w1.heap.size by have := HK.out.size; simp at this; omega)
  have HD := Lib.hid (show (encB d).length ≤ 1048576 + 9 by have := enc_len (n := d.length) (by omega); rw [encB, List.length_append]; omega)
  rw [← hX] at hB0 ⊢
  have HX := Lib.hid hX
  clear hX hod hkw
  generalize he : encB d = eb at HOD HD HO2 ⊢
  clear HO2 HK2 HB2 HK HB1 HR HPB H
  refine wp_region_held_drew (S := fun w' => w'.heap[X]? = some (.cells #[.int .i64 t, .int .i64 i, .int .i64 k, .slice a d.length c] 24 (0, 0))) (by kernel_rfl) hB0 (fun hHeld => ?_)
  clear hB0
  generalize w2.drew = y0 at hHeld HKW HOD ⊢
  refine wpAnyH_take (i := 0) (v := ?_) rfl (by kernel_rfl) (by kernel_rfl) (by kernel_rfl) (fun _ _ _ h => h) (Or.inl ⟨by rfl, ?_⟩) (by assumption) ?_
  rotate_left
  · intro w hSw
    go_simp
    try with_reducible rfl
  try simp only [Act.put, List.getElem_toArray, List.getElem_cons_zero, List.getElem_cons_succ, List.setIfInBounds_toArray, List.set_cons_zero, List.set_cons_succ]
  refine wpAnyH_take (i := 1) (v := .int .i64 t) rfl (by kernel_rfl) (by kernel_rfl) (by kernel_rfl) (fun _ _ _ h => h) (Or.inl ⟨by rfl, ?_⟩) (by assumption) ?_
  · intro w hSw
    have hc := cell_of hSw 0 (v := .int .i64 t) rfl
    go_simp
    try with_reducible rfl
  try simp only [Act.put, List.getElem_toArray, List.getElem_cons_zero, List.getElem_cons_succ, List.setIfInBounds_toArray, List.set_cons_zero, List.set_cons_succ]
  refine wpAnyH_take (i := 3) (v := ?_) rfl (by kernel_rfl) (by kernel_rfl) (by kernel_rfl) (fun _ _ _ h => h) (Or.inl ⟨by rfl, ?_⟩) (by assumption) ?_
  rotate_left
  · intro w hSw
    go_simp
    try with_reducible rfl
  try simp only [Act.put, List.getElem_toArray, List.getElem_cons_zero, List.getElem_cons_succ, List.setIfInBounds_toArray, List.set_cons_zero, List.set_cons_succ]
  refine wpAnyH_take (i := 4) (v := .int .i64 i) rfl (by kernel_rfl) (by kernel_rfl) (by kernel_rfl) (fun _ _ _ h => h) (Or.inl ⟨by rfl, ?_⟩) (by assumption) ?_
  · intro w hSw
    have hc := cell_of hSw 1 (v := .int .i64 i) rfl
    go_simp
    try with_reducible rfl
  try simp only [Act.put, List.getElem_toArray, List.getElem_cons_zero, List.getElem_cons_succ, List.setIfInBounds_toArray, List.set_cons_zero, List.set_cons_succ]
  refine wpAnyH_take (i := 6) (v := ?_) rfl (by kernel_rfl) (by kernel_rfl) (by kernel_rfl) (fun _ _ _ h => h) (Or.inl ⟨by rfl, ?_⟩) (by assumption) ?_
  rotate_left
  · intro w hSw
    go_simp
    try with_reducible rfl
  try simp only [Act.put, List.getElem_toArray, List.getElem_cons_zero, List.getElem_cons_succ, List.setIfInBounds_toArray, List.set_cons_zero, List.set_cons_succ]
  refine wpAnyH_take (i := 7) (v := .int .i64 k) rfl (by kernel_rfl) (by kernel_rfl) (by kernel_rfl) (fun _ _ _ h => h) (Or.inl ⟨by rfl, ?_⟩) (by assumption) ?_
  · intro w hSw
    have hc := cell_of hSw 2 (v := .int .i64 k) rfl
    go_simp
    try with_reducible rfl
  try simp only [Act.put, List.getElem_toArray, List.getElem_cons_zero, List.getElem_cons_succ, List.setIfInBounds_toArray, List.set_cons_zero, List.set_cons_succ]
  refine wpAnyH_take (i := 9) (v := ?_) rfl (by kernel_rfl) (by kernel_rfl) (by kernel_rfl) (fun _ _ _ h => h) (Or.inl ⟨by rfl, ?_⟩) (by assumption) ?_
  rotate_left
  · intro w hSw
    go_simp
    try with_reducible rfl
  try simp only [Act.put, List.getElem_toArray, List.getElem_cons_zero, List.getElem_cons_succ, List.setIfInBounds_toArray, List.set_cons_zero, List.set_cons_succ]
  refine wpAnyH_ready (rs := [2]) (by kernel_rfl) (by simp) ?_
  refine AllReadyH.cons rfl (fun K hK => ?_) AllReadyH.nil
  go_simp
  refine (number_any y0 t (by omega)).mono ?_
  rintro e y1 ⟨p0, cp0, rfl, ho0, hk0⟩
  refine hK.out _ _ (hk0.heap hHeld (fun h => h)) (fun hHeld => ?_)
  clear hK K
  try simp only [Act.put, List.getElem_toArray, List.getElem_cons_zero, List.getElem_cons_succ, List.setIfInBounds_toArray, List.set_cons_zero, List.set_cons_succ]
  refine wpAnyH_ready (rs := [5]) (by kernel_rfl) (by simp) ?_
  refine AllReadyH.cons rfl (fun K hK => ?_) AllReadyH.nil
  go_simp
  refine (number_any y1 i (by omega)).mono ?_
  rintro e y2 ⟨p1, cp1, rfl, ho1, hk1⟩
  refine hK.out _ _ (hk1.heap hHeld (fun h => h)) (fun hHeld => ?_)
  clear hK K
  try simp only [Act.put, List.getElem_toArray, List.getElem_cons_zero, List.getElem_cons_succ, List.setIfInBounds_toArray, List.set_cons_zero, List.set_cons_succ]
  refine wpAnyH_ready (rs := [8]) (by kernel_rfl) (by simp) ?_
  refine AllReadyH.cons rfl (fun K hK => ?_) AllReadyH.nil
  go_simp
  refine (number_any y2 k (by omega)).mono ?_
  rintro e y3 ⟨p2, cp2, rfl, ho2, hk2⟩
  refine hK.out _ _ (hk2.heap hHeld (fun h => h)) (fun hHeld => ?_)
  clear hK K
  try simp only [Act.put, List.getElem_toArray, List.getElem_cons_zero, List.getElem_cons_succ, List.setIfInBounds_toArray, List.set_cons_zero, List.set_cons_succ]
  refine wpAnyH_ready (rs := [10]) (by kernel_rfl) (by simp) ?_
  refine AllReadyH.cons rfl (fun K hK => ?_) AllReadyH.nil
  go_simp
  refine hK.out _ _ (heap_old _ hHeld) (fun hHeld => ?_)
  clear hK K
  try simp only [Act.put, List.getElem_toArray, List.getElem_cons_zero, List.getElem_cons_succ, List.setIfInBounds_toArray, List.set_cons_zero, List.set_cons_succ]
  refine wpAnyH_ready (rs := [11]) (by kernel_rfl) (by simp) ?_
  refine AllReadyH.cons rfl (fun K hK => ?_) AllReadyH.nil
  go_simp
  have hp := Pts.new (w := y3) (l := [⟨p0, enc t, cp0⟩, ⟨p1, enc i, cp1⟩, ⟨p2, enc k, cp2⟩, ⟨o2, eb, co2⟩]) (cs := #[Value.slice p0 (enc t).length cp0, Value.slice p1 (enc i).length cp1, Value.slice p2 (enc k).length cp2, Value.slice o2 eb.length co2]) rfl (by
    intro r hr
    simp only [List.mem_cons, List.not_mem_nil, or_false] at hr
    rcases hr with rfl | rfl | rfl | rfl
    · exact (ho0.row.no hk1).no hk2
    · exact ho1.row.no hk2
    · exact ho2.row
    · exact ((HOD.out.row.no hk0).no hk1).no hk2)
  have hfl : flat [⟨p0, enc t, cp0⟩, ⟨p1, enc i, cp1⟩, ⟨p2, enc k, cp2⟩, ⟨o2, eb, co2⟩] = enc t ++ enc i ++ enc k ++ eb := by simp [flat]
  have hj := join_any hp (by
    have e1 := enc_len (n := t) (by omega)
    have e2 := enc_len (n := i) (by omega)
    have e3 := enc_len (n := k) (by omega)
    have := HD.out
    rw [hfl]
    simp only [List.length_append]
    omega) (by simp) 4
  rw [hfl] at hj
  refine Calls.mono hj ?_
  rintro e y4 ⟨o4, co4, rfl, ho4, hk4⟩
  generalize hLL : (enc t ++ enc i ++ enc k ++ eb).length = LL at ho4 ⊢
  refine hK.out _ _ (hk4.heap hHeld (fun h => h)) (fun hHeld => ?_)
  clear hK K
  try simp only [Act.put, List.getElem_toArray, List.getElem_cons_zero, List.getElem_cons_succ, List.setIfInBounds_toArray, List.set_cons_zero, List.set_cons_succ]
  refine wpAnyH_take (i := 12) (v := ?_) rfl (by kernel_rfl) (by kernel_rfl) (by kernel_rfl) (fun _ _ _ h => h) (Or.inl ⟨by rfl, ?_⟩) (by assumption) ?_
  rotate_left
  · intro w hSw
    go_simp
    try with_reducible rfl
  try simp only [Act.put, List.getElem_toArray, List.getElem_cons_zero, List.getElem_cons_succ, List.setIfInBounds_toArray, List.set_cons_zero, List.set_cons_succ]
  refine wpAnyH_take (i := 13) (v := ?_) rfl (by kernel_rfl) (by kernel_rfl) (by kernel_rfl) (fun _ _ _ h => h) (Or.inl ⟨by rfl, ?_⟩) (by assumption) ?_
  rotate_left
  · intro w hSw
    go_simp
    try with_reducible rfl
  try simp only [Act.put, List.getElem_toArray, List.getElem_cons_zero, List.getElem_cons_succ, List.setIfInBounds_toArray, List.set_cons_zero, List.set_cons_succ]
  refine wpAnyH_done (by kernel_rfl) ?_ _
  have hk01 := (((HKW.out.trans hk0).trans hk1).trans hk2)
  have hfin := (hk01.alloc (.cells #[Value.slice p0 (enc t).length cp0, Value.slice p1 (enc i).length cp1, Value.slice p2 (enc k).length cp2, Value.slice o2 eb.length co2] 22)).trans hk4
  have HO4 := Lib.hid (ho4.low (B' := w.heap.size) (by have := hk01.size; simp; omega))
  have HFI := Lib.hid hfin
  clear hfin hk01 ho4 hk4 hj hp hfl ho0 ho1 ho2 hk0 hk1 hk2 HKW HOD
  go_wp2
  subst he
  subst hLL
  exact bodyPost_ret (v := .tuple #[.slice o4 (enc t ++ enc i ++ enc k ++ encB d).length co4, .int .i64 0]) (by simp [results, Tryz.results5, go_sem]) rfl ⟨o4, co4, rfl, HO4.out, HFI.out⟩
end Go.Proofs.YtecohkoekifeiaaGreatDoor
namespace Go.Proofs.YtecohkoekifeiaaGreatDoor
open Go.ChangeShapes Go.WideShapes Go.ChangeAt Go.RowKit
set_option linter.unusedVariables false
set_option linter.unusedSimpArgs false

/-- One bit of the sum. -/
def crcB (y : Int) : Int := bits BinOp.xor IntKind.u32 (y / 2) (2197175160 * bits BinOp.and IntKind.u32 y 1 % 4294967296)
def crcN : Nat → Int → Int
  | 0, y => y
  | n + 1, y => crcB (crcN n y)
/-- One byte of the sum. -/
def crcX (z x : Int) : Int := crcN 8 (bits BinOp.xor IntKind.u32 z x)
def crcs (b : List Int) : Int := b.foldl crcX 4294967295

/-- The sum. -/
def crcF (b : List Int) : Int := bits BinOp.xor IntKind.u32 IntKind.u32.max (crcs b)

theorem take_foldl {b : List Int} {k : Nat} (hk : k < b.length) (z : Int) : (b.take (k + 1)).foldl crcX z = crcX ((b.take k).foldl crcX z) (b.getD k 0) := by
  rw [List.take_succ_eq_append_getElem hk, List.foldl_append]
  simp [List.getD, hk]

set_option maxRecDepth 100000 in
set_option maxHeartbeats 8000000 in
theorem crc_any {w : World} {a : Option Addr} {b : List Int} (h : Row w a (bytes b)) (hB : Byte b) (hm : b.length ≤ 140737488355328) (c : Nat) :
    Calls Tryz.prog 52 #[.slice a b.length c] w fun e w' => e = .returned (.int .u32 (crcF b)) ∧ w' = w := by
  have H := Lib.hid h
  clear h
  go_enter Tryz.func52, Tryz.ntmps52
  go_wp2_with fail
  go_loopw [3, 8] (fun s i wr => ∃ (k : Nat) (z : Int), i = .int .i64 k ∧ k ≤ b.length ∧ s = .int .u32 z ∧ z = (b.take k).foldl crcX 4294967295 ∧ wr = w) (fun _ i _ => b.length - (intOf i).toNat)
  case atStart => exact ⟨0, _, rfl, Nat.zero_le _, rfl, rfl, rfl⟩
  case round =>
    obtain ⟨k, z, rfl, hk, rfl, hz, hwr⟩ := hrel
    subst wr
    have HZ := Lib.hid hz
    clear hz
    by_cases hlt : k < b.length
    · obtain ⟨bb, off, rfl, hc⟩ : ∃ bb off, a = some ⟨bb, off, none⟩ ∧ w.cell? ⟨bb, off + k, none⟩ = some (.int .u8 (b.getD k 0)) := H.out k _ (by simp [bytes, List.getD, hlt])
      have hx := hB (b.getD k 0) (by simp [List.getD, hlt])
      have HT := Lib.hid (take_foldl hlt 4294967295)
      generalize b.getD k 0 = x at hc hx HT
      have hkI : (k : Int) < (b.length : Int) := by omega
      have hk0 : (0 : Int) ≤ (k : Int) := by omega
      go_wp2_with fail
      generalize hy0 : bits BinOp.xor IntKind.u32 z x = y0
      have HY := Lib.hid hy0
      clear hy0
      go_loopw [3, 16] (fun s i w2 => ∃ (j : Nat) (y : Int), i = .int .i64 j ∧ j ≤ 8 ∧ s = .int .u32 y ∧ y = crcN j y0 ∧ w2 = w) (fun _ i _ => 8 - (intOf i).toNat)
      case atStart => exact ⟨0, _, rfl, by omega, rfl, rfl, rfl⟩
      case round =>
        obtain ⟨j, y, rfl, hj, rfl, hy, hwr⟩ := hrel
        subst hwr
        have HJ := Lib.hid hy
        clear hy
        by_cases hl8 : j < 8
        · have hjI : (j : Int) < 8 := by omega
          go_wp2_with fail
          go_roundw
          case rel => exact ⟨j + 1, _, by go_num, by omega, rfl, by rw [HJ.out]; rfl, trivial⟩
          case measure => simp [intOf]; omega
        · obtain rfl : j = 8 := by omega
          go_wp2_with fail
          go_roundw
          case rel => exact ⟨k + 1, _, by go_num, by omega, rfl, by rw [HT.out, HJ.out, ← HZ.out, ← HY.out]; rfl, trivial⟩
          case measure => simp [intOf]; omega
    · obtain rfl : k = b.length := by omega
      go_wp2_with fail
      go_ret
      refine ⟨?_, rfl⟩
      have := HZ.out
      rw [List.take_length] at this
      rw [this]
      rfl
end Go.Proofs.YtecohkoekifeiaaGreatDoor
namespace Go.Proofs.YtecohkoekifeiaaGreatDoor
open Go.ChangeShapes Go.WideShapes Go.ChangeAt Go.RowKit
set_option linter.unusedVariables false
set_option linter.unusedSimpArgs false

/-- Four bytes, as a number. -/
def fnum (x0 x1 x2 x3 : Int) : Int :=
  bits BinOp.or IntKind.u32 (bits BinOp.or IntKind.u32 (bits BinOp.or IntKind.u32 (IntKind.u32.wrap x0) (IntKind.u32.wrap (IntKind.u32.wrap x1 * 256))) (IntKind.u32.wrap (IntKind.u32.wrap x2 * 65536))) (IntKind.u32.wrap (IntKind.u32.wrap x3 * 16777216))

set_option maxRecDepth 100000 in
set_option maxHeartbeats 8000000 in
theorem fnumber_any {w : World} {a : Option Addr} {x0 x1 x2 x3 : Int} {b : List Int} (h : Row w a (bytes (x0 :: x1 :: x2 :: x3 :: b))) (hB : Byte (x0 :: x1 :: x2 :: x3 :: b)) (c : Nat) :
    Calls Tryz.prog 63 #[.slice a (b.length + 4) c] w fun e w' => e = .returned (.int .u32 (fnum x0 x1 x2 x3)) ∧ Kp (fun _ => False) w w' := by
  obtain ⟨bb, off, rfl, h0⟩ := h 0 (.int .u8 x0) rfl
  obtain ⟨_, _, e1, h1⟩ := h 1 (.int .u8 x1) rfl
  cases e1
  obtain ⟨_, _, e1, h2⟩ := h 2 (.int .u8 x2) rfl
  cases e1
  obtain ⟨_, _, e1, h3⟩ := h 3 (.int .u8 x3) rfl
  cases e1
  have b0 := hB x0 (by simp)
  have b1 := hB x1 (by simp)
  have b2 := hB x2 (by simp)
  have b3 := hB x3 (by simp)
  clear h hB
  generalize hn : b.length + 4 = n
  have hn4 : (3 : Int) < (n : Int) := by omega
  have hn3 : (2 : Int) < (n : Int) := by omega
  have hn2 : (1 : Int) < (n : Int) := by omega
  have hn1 : (0 : Int) < (n : Int) := by omega
  go_enter Tryz.func63, Tryz.ntmps63
  go_wp2_with fail
  refine wp_region_held_drew (S := fun w' => w'.cell? ⟨bb, off, none⟩ = some (.int .u8 x0) ∧ w'.cell? ⟨bb, off + 1, none⟩ = some (.int .u8 x1) ∧ w'.cell? ⟨bb, off + 2, none⟩ = some (.int .u8 x2) ∧ w'.cell? ⟨bb, off + 3, none⟩ = some (.int .u8 x3)) (by kernel_rfl) ⟨h0, h1, h2, h3⟩ (fun hHeld => ?_)
  refine wpAnyH_take (i := 0) (v := ?_) rfl (by kernel_rfl) (by kernel_rfl) (by kernel_rfl) (fun _ _ _ h => h) (Or.inl ⟨by rfl, ?_⟩) (by assumption) ?_
  rotate_left
  · intro w hSw
    go_simp
    try with_reducible rfl
  try simp only [Act.put, List.getElem_toArray, List.getElem_cons_zero, List.getElem_cons_succ, List.setIfInBounds_toArray, List.set_cons_zero, List.set_cons_succ]
  refine wpAnyH_take (i := 1) (v := .pointer (some ⟨bb, off, none⟩)) rfl (by kernel_rfl) (by kernel_rfl) (by kernel_rfl) (fun _ _ _ h => h) (Or.inl ⟨by rfl, ?_⟩) (by assumption) ?_
  · intro w hSw
    go_simp
    intro hn0
    exact absurd hn0 (by omega)
  try simp only [Act.put, List.getElem_toArray, List.getElem_cons_zero, List.getElem_cons_succ, List.setIfInBounds_toArray, List.set_cons_zero, List.set_cons_succ]
  refine wpAnyH_take (i := 2) (v := .int .u8 x0) rfl (by kernel_rfl) (by kernel_rfl) (by kernel_rfl) (fun _ _ _ h => h) (Or.inl ⟨by rfl, ?_⟩) (by assumption) ?_
  · intro w hSw
    have hc := hSw.1
    go_simp
    try with_reducible rfl
  try simp only [Act.put, List.getElem_toArray, List.getElem_cons_zero, List.getElem_cons_succ, List.setIfInBounds_toArray, List.set_cons_zero, List.set_cons_succ]
  refine wpAnyH_take (i := 3) (v := ?_) rfl (by kernel_rfl) (by kernel_rfl) (by kernel_rfl) (fun _ _ _ h => h) (Or.inl ⟨by rfl, ?_⟩) (by assumption) ?_
  rotate_left
  · intro w hSw
    go_simp
    try with_reducible rfl
  try simp only [Act.put, List.getElem_toArray, List.getElem_cons_zero, List.getElem_cons_succ, List.setIfInBounds_toArray, List.set_cons_zero, List.set_cons_succ]
  refine wpAnyH_take (i := 4) (v := ?_) rfl (by kernel_rfl) (by kernel_rfl) (by kernel_rfl) (fun _ _ _ h => h) (Or.inl ⟨by rfl, ?_⟩) (by assumption) ?_
  rotate_left
  · intro w hSw
    go_simp
    try with_reducible rfl
  try simp only [Act.put, List.getElem_toArray, List.getElem_cons_zero, List.getElem_cons_succ, List.setIfInBounds_toArray, List.set_cons_zero, List.set_cons_succ]
  refine wpAnyH_take (i := 5) (v := ?_) rfl (by kernel_rfl) (by kernel_rfl) (by kernel_rfl) (fun _ _ _ h => h) (Or.inl ⟨by rfl, ?_⟩) (by assumption) ?_
  rotate_left
  · intro w hSw
    go_simp
    try with_reducible rfl
  try simp only [Act.put, List.getElem_toArray, List.getElem_cons_zero, List.getElem_cons_succ, List.setIfInBounds_toArray, List.set_cons_zero, List.set_cons_succ]
  refine wpAnyH_take (i := 6) (v := .int .u8 x1) rfl (by kernel_rfl) (by kernel_rfl) (by kernel_rfl) (fun _ _ _ h => h) (Or.inl ⟨by rfl, ?_⟩) (by assumption) ?_
  · intro w hSw
    have hc := hSw.2.1
    go_simp
    try with_reducible rfl
  try simp only [Act.put, List.getElem_toArray, List.getElem_cons_zero, List.getElem_cons_succ, List.setIfInBounds_toArray, List.set_cons_zero, List.set_cons_succ]
  refine wpAnyH_take (i := 7) (v := ?_) rfl (by kernel_rfl) (by kernel_rfl) (by kernel_rfl) (fun _ _ _ h => h) (Or.inl ⟨by rfl, ?_⟩) (by assumption) ?_
  rotate_left
  · intro w hSw
    go_simp
    try with_reducible rfl
  try simp only [Act.put, List.getElem_toArray, List.getElem_cons_zero, List.getElem_cons_succ, List.setIfInBounds_toArray, List.set_cons_zero, List.set_cons_succ]
  refine wpAnyH_take (i := 8) (v := ?_) rfl (by kernel_rfl) (by kernel_rfl) (by kernel_rfl) (fun _ _ _ h => h) (Or.inl ⟨by rfl, ?_⟩) (by assumption) ?_
  rotate_left
  · intro w hSw
    go_simp
    try with_reducible rfl
  try simp only [Act.put, List.getElem_toArray, List.getElem_cons_zero, List.getElem_cons_succ, List.setIfInBounds_toArray, List.set_cons_zero, List.set_cons_succ]
  refine wpAnyH_take (i := 9) (v := ?_) rfl (by kernel_rfl) (by kernel_rfl) (by kernel_rfl) (fun _ _ _ h => h) (Or.inl ⟨by rfl, ?_⟩) (by assumption) ?_
  rotate_left
  · intro w hSw
    go_simp
    try with_reducible rfl
  try simp only [Act.put, List.getElem_toArray, List.getElem_cons_zero, List.getElem_cons_succ, List.setIfInBounds_toArray, List.set_cons_zero, List.set_cons_succ]
  refine wpAnyH_take (i := 10) (v := ?_) rfl (by kernel_rfl) (by kernel_rfl) (by kernel_rfl) (fun _ _ _ h => h) (Or.inl ⟨by rfl, ?_⟩) (by assumption) ?_
  rotate_left
  · intro w hSw
    go_simp
    try with_reducible rfl
  try simp only [Act.put, List.getElem_toArray, List.getElem_cons_zero, List.getElem_cons_succ, List.setIfInBounds_toArray, List.set_cons_zero, List.set_cons_succ]
  refine wpAnyH_take (i := 11) (v := ?_) rfl (by kernel_rfl) (by kernel_rfl) (by kernel_rfl) (fun _ _ _ h => h) (Or.inl ⟨by rfl, ?_⟩) (by assumption) ?_
  rotate_left
  · intro w hSw
    go_simp
    try with_reducible rfl
  try simp only [Act.put, List.getElem_toArray, List.getElem_cons_zero, List.getElem_cons_succ, List.setIfInBounds_toArray, List.set_cons_zero, List.set_cons_succ]
  refine wpAnyH_take (i := 12) (v := .int .u8 x2) rfl (by kernel_rfl) (by kernel_rfl) (by kernel_rfl) (fun _ _ _ h => h) (Or.inl ⟨by rfl, ?_⟩) (by assumption) ?_
  · intro w hSw
    have hc := hSw.2.2.1
    go_simp
    try with_reducible rfl
  try simp only [Act.put, List.getElem_toArray, List.getElem_cons_zero, List.getElem_cons_succ, List.setIfInBounds_toArray, List.set_cons_zero, List.set_cons_succ]
  refine wpAnyH_take (i := 13) (v := ?_) rfl (by kernel_rfl) (by kernel_rfl) (by kernel_rfl) (fun _ _ _ h => h) (Or.inl ⟨by rfl, ?_⟩) (by assumption) ?_
  rotate_left
  · intro w hSw
    go_simp
    try with_reducible rfl
  try simp only [Act.put, List.getElem_toArray, List.getElem_cons_zero, List.getElem_cons_succ, List.setIfInBounds_toArray, List.set_cons_zero, List.set_cons_succ]
  refine wpAnyH_take (i := 14) (v := ?_) rfl (by kernel_rfl) (by kernel_rfl) (by kernel_rfl) (fun _ _ _ h => h) (Or.inl ⟨by rfl, ?_⟩) (by assumption) ?_
  rotate_left
  · intro w hSw
    go_simp
    try with_reducible rfl
  try simp only [Act.put, List.getElem_toArray, List.getElem_cons_zero, List.getElem_cons_succ, List.setIfInBounds_toArray, List.set_cons_zero, List.set_cons_succ]
  refine wpAnyH_take (i := 15) (v := ?_) rfl (by kernel_rfl) (by kernel_rfl) (by kernel_rfl) (fun _ _ _ h => h) (Or.inl ⟨by rfl, ?_⟩) (by assumption) ?_
  rotate_left
  · intro w hSw
    go_simp
    try with_reducible rfl
  try simp only [Act.put, List.getElem_toArray, List.getElem_cons_zero, List.getElem_cons_succ, List.setIfInBounds_toArray, List.set_cons_zero, List.set_cons_succ]
  refine wpAnyH_take (i := 16) (v := ?_) rfl (by kernel_rfl) (by kernel_rfl) (by kernel_rfl) (fun _ _ _ h => h) (Or.inl ⟨by rfl, ?_⟩) (by assumption) ?_
  rotate_left
  · intro w hSw
    go_simp
    try with_reducible rfl
  try simp only [Act.put, List.getElem_toArray, List.getElem_cons_zero, List.getElem_cons_succ, List.setIfInBounds_toArray, List.set_cons_zero, List.set_cons_succ]
  refine wpAnyH_take (i := 17) (v := ?_) rfl (by kernel_rfl) (by kernel_rfl) (by kernel_rfl) (fun _ _ _ h => h) (Or.inl ⟨by rfl, ?_⟩) (by assumption) ?_
  rotate_left
  · intro w hSw
    go_simp
    try with_reducible rfl
  try simp only [Act.put, List.getElem_toArray, List.getElem_cons_zero, List.getElem_cons_succ, List.setIfInBounds_toArray, List.set_cons_zero, List.set_cons_succ]
  refine wpAnyH_take (i := 18) (v := .int .u8 x3) rfl (by kernel_rfl) (by kernel_rfl) (by kernel_rfl) (fun _ _ _ h => h) (Or.inl ⟨by rfl, ?_⟩) (by assumption) ?_
  · intro w hSw
    have hc := hSw.2.2.2
    go_simp
    try with_reducible rfl
  try simp only [Act.put, List.getElem_toArray, List.getElem_cons_zero, List.getElem_cons_succ, List.setIfInBounds_toArray, List.set_cons_zero, List.set_cons_succ]
  refine wpAnyH_take (i := 19) (v := ?_) rfl (by kernel_rfl) (by kernel_rfl) (by kernel_rfl) (fun _ _ _ h => h) (Or.inl ⟨by rfl, ?_⟩) (by assumption) ?_
  rotate_left
  · intro w hSw
    go_simp
    try with_reducible rfl
  try simp only [Act.put, List.getElem_toArray, List.getElem_cons_zero, List.getElem_cons_succ, List.setIfInBounds_toArray, List.set_cons_zero, List.set_cons_succ]
  refine wpAnyH_take (i := 20) (v := ?_) rfl (by kernel_rfl) (by kernel_rfl) (by kernel_rfl) (fun _ _ _ h => h) (Or.inl ⟨by rfl, ?_⟩) (by assumption) ?_
  rotate_left
  · intro w hSw
    go_simp
    try with_reducible rfl
  try simp only [Act.put, List.getElem_toArray, List.getElem_cons_zero, List.getElem_cons_succ, List.setIfInBounds_toArray, List.set_cons_zero, List.set_cons_succ]
  refine wpAnyH_take (i := 21) (v := ?_) rfl (by kernel_rfl) (by kernel_rfl) (by kernel_rfl) (fun _ _ _ h => h) (Or.inl ⟨by rfl, ?_⟩) (by assumption) ?_
  rotate_left
  · intro w hSw
    go_simp
    try with_reducible rfl
  try simp only [Act.put, List.getElem_toArray, List.getElem_cons_zero, List.getElem_cons_succ, List.setIfInBounds_toArray, List.set_cons_zero, List.set_cons_succ]
  refine wpAnyH_take (i := 22) (v := ?_) rfl (by kernel_rfl) (by kernel_rfl) (by kernel_rfl) (fun _ _ _ h => h) (Or.inl ⟨by rfl, ?_⟩) (by assumption) ?_
  rotate_left
  · intro w hSw
    go_simp
    try with_reducible rfl
  try simp only [Act.put, List.getElem_toArray, List.getElem_cons_zero, List.getElem_cons_succ, List.setIfInBounds_toArray, List.set_cons_zero, List.set_cons_succ]
  refine wpAnyH_done (by kernel_rfl) ?_ _
  go_wp2_with fail
  go_ret
  exact ⟨rfl, (Kp.refl _ _).drew⟩
end Go.Proofs.YtecohkoekifeiaaGreatDoor
namespace Go.Proofs.YtecohkoekifeiaaGreatDoor
open Go.ChangeShapes Go.WideShapes Go.ChangeAt Go.RowKit
set_option linter.unusedVariables false
set_option linter.unusedSimpArgs false

/-- A number's four bytes. -/
def fby (z : Int) : List Int := [z % 256, z / 256 % 256, z / 65536 % 256, z / 16777216 % 256]
def us (l : List Int) : List Value := l.map (Value.int .u32)

set_option maxRecDepth 100000 in
set_option maxHeartbeats 8000000 in
theorem fnumbers_any {w : World} {a : Option Addr} {zs : List Int} (h : Row w a (us zs)) (hm : zs.length ≤ 1000) (c : Nat) :
    Calls Tryz.prog 51 #[.slice a zs.length c] w fun e w' => ∃ o co, e = .returned (.slice o (zs.flatMap fby).length co) ∧ Owns w' w.heap.size 5 1 o (zs.flatMap fby).length co (bytes (zs.flatMap fby)) ∧ Kp (fun _ => False) w w' := by
  have H := Lib.hid h
  clear h
  go_enter Tryz.func51, Tryz.ntmps51
  go_wp2_with fail
  go_loopw [3, 8] (fun s i wr => ∃ (k : Nat) (oa : Option Addr) (co : Nat) (A : List Int), i = .int .i64 k ∧ k ≤ zs.length ∧ s = .slice oa A.length co ∧ A.length = 4 * k ∧ A = (zs.take k).flatMap fby ∧ Owns wr w.heap.size 5 1 oa A.length co (bytes A) ∧ Kp (fun _ => False) w wr) (fun _ i _ => zs.length - (intOf i).toNat)
  case atStart => exact ⟨0, none, 0, [], rfl, Nat.zero_le _, rfl, rfl, rfl, Owns.nil _ _ _ _, Kp.refl _ _⟩
  case round =>
    obtain ⟨k, oa, co, A, rfl, hk, rfl, hA, hAz, ho, hK⟩ := hrel
    have HO := Lib.hid ho
    have HK := Lib.hid hK
    have HAZ := Lib.hid hAz
    have HA := Lib.hid hA
    by_cases hlt : k < zs.length
    · obtain ⟨bb, off, rfl, hc⟩ : ∃ bb off, a = some ⟨bb, off, none⟩ ∧ wr.cell? ⟨bb, off + k, none⟩ = some (.int .u32 (zs.getD k 0)) := (H.out.no hK) k _ (by simp [us, List.getD, hlt])
      have ht : zs.take (k + 1) = zs.take k ++ [zs.getD k 0] := by
        rw [List.take_succ_eq_append_getElem hlt]
        simp [List.getD, hlt]
      have HT := Lib.hid ht
      generalize zs.getD k 0 = z at hc HT
      have hkI : (k : Int) < (zs.length : Int) := by omega
      have hk0 : (0 : Int) ≤ (k : Int) := by omega
      clear ho hK hAz hA ht
      go_wp2_with (at_builtin; refine Stop.mk ?_)
      unfold Stop
      have hA := HA.out
      have hr4 : Row (wr.alloc (Obj.cells #[Value.int IntKind.u8 (z % 256), Value.int IntKind.u8 (z / 256 % 256), Value.int IntKind.u8 (z / 65536 % 256), Value.int IntKind.u8 (z / 16777216 % 256)] 5)) (some ⟨wr.heap.size, 0, none⟩) (bytes (fby z)) := fun j u hu => ⟨_, _, rfl, cell_of (heap_new wr _) (0 + j) (by simpa [fby, bytes] using hu)⟩
      refine wpList_app rfl _ _ 22 rfl w.heap.size 5 info5 Tryz.underlying22 rfl (by decide) rfl (HO.out.kp ((Kp.refl (fun _ => False) _).alloc _) (fun _ _ h => h)) rfl (news := bytes (fby z)) rfl hr4.news (one_bytes _) (by unfold maxLen; omega) (by omega) (by have := HK.out.size; simp; omega) ?_
      intro a' cap' w4 ho4 hk4
      have hK4 : Kp (fun _ => False) w w4 := (HK.out.alloc _).andThen hk4 (fun i hi e => by have := (Owns.from HO.out e.symm).1; omega)
      have hAA : A.length + 4 = (A ++ fby z).length := by simp [fby]
      rw [show bytes A ++ bytes (fby z) = bytes (A ++ fby z) by simp [bytes], hAA] at ho4
      rw [hAA]
      have hA2 : (A ++ fby z).length = 4 * (k + 1) := by rw [← hAA]; omega
      have hZ2 : A ++ fby z = (zs.take (k + 1)).flatMap fby := by rw [HT.out, List.flatMap_append, ← HAZ.out]; simp
      generalize A ++ fby z = A2 at ho4 hA2 hZ2 ⊢
      have HO4 := Lib.hid ho4
      have HK4 := Lib.hid hK4
      have HA2 := Lib.hid hA2
      have HZ2 := Lib.hid hZ2
      clear ho4 hK4 hA2 hZ2 hAA hA hr4 hk4
      go_wp2
      go_roundw
      case rel => exact ⟨k + 1, a', cap', A2, by go_num, by omega, rfl, HA2.out, HZ2.out, HO4.out, HK4.out⟩
      case measure => simp [intOf]; omega
    · obtain rfl : k = zs.length := by omega
      rw [List.take_length] at hAz
      have HZ3 := Lib.hid hAz
      clear ho hK hAz hA HAZ
      go_wp2_with fail
      go_ret
      refine ⟨oa, co, by rw [← HZ3.out]; rfl, ?_, HK.out⟩
      rw [← HZ3.out]
      exact HO.out
end Go.Proofs.YtecohkoekifeiaaGreatDoor
namespace Go.Proofs.YtecohkoekifeiaaGreatDoor
open Go.ChangeShapes Go.WideShapes Go.ChangeAt Go.RowKit
set_option linter.unusedVariables false
set_option linter.unusedSimpArgs false

/-- A frame. -/
def frm (k : Nat) (p : List Int) : List Int := [(p.length : Int), crcF ((k : Int) :: p)].flatMap fby ++ ((k : Int) :: p)

set_option maxRecDepth 100000 in
set_option maxHeartbeats 8000000 in
theorem fput_any {w : World} {a : Option Addr} {p : List Int} (h : Row w a (bytes p)) (hB : Byte p) (k : Nat) (hk : k < 256) (hm : p.length ≤ 65536) (c : Nat) :
    Calls Tryz.prog 36 #[.int .i64 k, .slice a p.length c] w fun e w' => ∃ o co, e = .returned (.tuple #[.slice o (frm k p).length co, .int .i64 0]) ∧ Owns w' w.heap.size 5 1 o (frm k p).length co (bytes (frm k p)) ∧ Kp (fun _ => False) w w' := by
  have H := Lib.hid h
  have hk0 : ¬ ((k : Int) < 0) := by omega
  have hk1 : ¬ ((255 : Int) < (k : Int)) := by omega
  have hp : ¬ ((65536 : Int) < (p.length : Int)) := by omega
  have hkm : (k : Int) % 256 = k := by omega
  have hpm : (p.length : Int) % 4294967296 = p.length := by omega
  clear h
  go_enter Tryz.func36, Tryz.ntmps36
  go_wp2_with (at_builtin; refine Stop.mk ?_)
  unfold Stop
  refine wpList_app rfl _ _ 22 rfl w.heap.size 5 info5 Tryz.underlying22 rfl (by decide) rfl (Owns.lit1 (heap_new w _) (Nat.le_refl _)) rfl (news := bytes p) (by simp [bytes]) (H.out.no ((Kp.refl _ _).alloc _)).news (one_bytes _) (by unfold maxLen; omega) (by omega) (by simp) ?_
  intro a1 c1 w1 ho1 hk1'
  have HK1 := Lib.hid (((Kp.refl (fun k => w.heap.size ≤ k) w).alloc (.cells #[.int .u8 k] 5)).trans (hk1'.mono fun i hi e => by cases e; exact Nat.le_refl _)).fin
  have hq : ∃ q : List Int, q = (k : Int) :: p := ⟨_, rfl⟩
  obtain ⟨q, hq⟩ := hq
  have hql : 1 + p.length = q.length := by rw [hq, List.length_cons]; omega
  have hqB : Byte q := by
    rw [hq]
    intro x hx
    simp only [List.mem_cons] at hx
    rcases hx with rfl | hx
    · omega
    · exact hB x hx
  have hfr : frm k p = [(p.length : Int), crcF q].flatMap fby ++ q := by unfold frm; rw [hq]
  rw [show ([Value.int IntKind.u8 (k : Int)] ++ bytes p) = bytes q by rw [hq]; rfl, hql] at ho1
  rw [hql]
  have HC := Lib.hid (crc_any ho1.row hqB (by omega) c1)
  have HNs := Lib.hid (fnumbers_any (w := w1.alloc (.cells #[.int .u32 p.length, .int .u32 (crcF q)] 109)) (a := some ⟨w1.heap.size, 0, none⟩) (zs := [(p.length : Int), crcF q]) (fun j u hu => ⟨_, _, rfl, cell_of (heap_new w1 _) (0 + j) (by simpa [us] using hu)⟩) (by simp) 2)
  have HO1 := Lib.hid ho1
  have HQ := Lib.hid hql
  have HF := Lib.hid hfr
  clear hq hql hqB ho1 hk1' hfr
  generalize crcF q = cr at HC HNs HF ⊢
  go_wp2_with (first | (go_at_call 52; refine (HC.out).mono ?_; rintro e w2 ⟨rfl, rfl⟩) | (go_at_call 51; refine Stop.mk ?_))
  unfold Stop
  refine (HNs.out).mono ?_
  rintro e w3 ⟨o3, co3, rfl, ho3, hk3⟩
  have HO3 := Lib.hid ho3
  have HK3 := Lib.hid hk3
  clear ho3 hk3
  generalize hN : ([(p.length : Int), cr].flatMap fby) = nb at HO3 HF ⊢
  have hnb : nb.length = 8 := by rw [← hN]; simp [fby]
  have HNB := Lib.hid hnb
  clear hN hnb
  go_wp2_with (at_builtin; refine Stop.mk ?_)
  unfold Stop
  have hq := HQ.out
  have hnb := HNB.out
  have hw3 := HK3.out.size
  have hw1 := HK1.out.size
  refine wpList_app rfl _ _ 22 rfl (w2.heap.size + 1) 5 info5 Tryz.underlying22 rfl (by decide) rfl (HO3.out.low (B' := w2.heap.size + 1) (by simp)) rfl (news := bytes q) (by simp [bytes]) ((HO1.out.row.no ((Kp.refl _ _).alloc _)).no HK3.out).news (one_bytes _) (by unfold maxLen; omega) (by omega) (by simpa using hw3) ?_
  intro a5 c5 w5 ho5 hk5
  have hK5 : Kp (fun _ => False) w w5 := ((HK1.out.alloc (.cells #[.int .u32 p.length, .int .u32 cr] 109)).trans HK3.out).andThen hk5 (fun i hi e => by
    have h2 := (Owns.from HO3.out e.symm).1
    simp at h2
    omega)
  have hAA : nb.length + q.length = (nb ++ q).length := by simp
  rw [show bytes nb ++ bytes q = bytes (nb ++ q) by simp [bytes], hAA, ← HF.out] at ho5
  rw [hAA, ← HF.out]
  have HO5 := Lib.hid (ho5.low (B' := w.heap.size) (by omega))
  have HK5 := Lib.hid hK5
  clear ho5 hk5 hK5 hAA hnb
  go_wp2
  exact bodyPost_ret (v := .tuple #[.slice a5 (frm k p).length c5, .int .i64 0]) (by simp [results, Tryz.results36, go_sem]) rfl ⟨a5, c5, rfl, HO5.out, HK5.out⟩
end Go.Proofs.YtecohkoekifeiaaGreatDoor
namespace Go.Proofs.YtecohkoekifeiaaGreatDoor
open Go.ChangeShapes Go.WideShapes Go.ChangeAt Go.RowKit
set_option linter.unusedVariables false
set_option linter.unusedSimpArgs false

set_option maxRecDepth 100000 in
set_option maxHeartbeats 8000000 in
theorem stPut_good (w : World) (t n : Nat) (ht : t < 1099511627776) (hn : n ≤ 16) (v : Int) (hv : v + 1 = n) :
    Calls Tryz.prog 12 #[.agg #[.int .i64 t, .int .i64 v]] w fun e w' => ∃ o co, e = .returned (.tuple #[.slice o (frm 4 (enc t ++ enc n)).length co, .int .i64 0]) ∧ Owns w' w.heap.size 5 1 o (frm 4 (enc t ++ enc n)).length co (bytes (frm 4 (enc t ++ enc n))) ∧ Kp (fun _ => False) w w' := by
  have HN1 := Lib.hid (fun u => putNumber_good u t (by omega))
  have HN2 := Lib.hid (fun u => putNumber_good u n (by omega))
  have HE := Lib.hid (⟨enc_len (n := t) (by omega), enc_len (n := n) (by omega), enc_byte (n := t) (by omega), enc_byte (n := n) (by omega)⟩ : (enc t).length ≤ 9 ∧ (enc n).length ≤ 9 ∧ Byte (enc t) ∧ Byte (enc n))
  have g1 : ¬ ((1099511627776 : Int) ≤ (t : Int)) := by omega
  have g2 : ¬ (v < -1) := by omega
  have g3 : ¬ (16 ≤ v) := by omega
  have HV := Lib.hid hv
  clear hv ht hn
  generalize (t : Int) = tz at g1 HN1 ⊢
  go_enter Tryz.func12, Tryz.ntmps12
  go_wp2_with (go_at_call 33; refine Stop.mk ?_)
  unfold Stop
  refine (HN1.out _).mono ?_
  rintro e w1 ⟨o1, c1, rfl, ho1, hk1⟩
  have b1 := hk1.heap (heap_new w _) (fun h => h)
  have hl1 := lt_of_block b1
  have d0 := cell_of b1 0 rfl
  have d1 := cell_of b1 1 rfl
  have HB1 := Lib.hid b1
  have HO1 := Lib.hid ho1
  have HK1 := Lib.hid hk1
  clear b1 ho1 hk1
  generalize hA : enc t = A at HO1 HE ⊢
  go_wp2_with (go_at_call 33; refine Stop.mk ?_)
  unfold Stop
  rw [HV.out]
  refine (HN2.out _).mono ?_
  rintro e w2 ⟨o2, c2, rfl, ho2, hk2⟩
  generalize hC : enc n = C at ho2 HE ⊢
  have hp := Pts.new (w := w2) (l := [⟨o1, A, c1⟩, ⟨o2, C, c2⟩]) (cs := #[Value.slice o1 A.length c1, Value.slice o2 C.length c2]) rfl (by
    intro r hr
    simp only [List.mem_cons, List.not_mem_nil, or_false] at hr
    rcases hr with rfl | rfl
    · exact HO1.out.row.no hk2
    · exact ho2.row)
  have hfl : flat [⟨o1, A, c1⟩, ⟨o2, C, c2⟩] = A ++ C := by simp [flat]
  have hj := join_any hp (by rw [hfl, List.length_append]; have := HE.out; omega) (by simp) 2
  rw [hfl] at hj
  have HJ := Lib.hid hj
  have HK2 := Lib.hid hk2
  clear d0 d1 hk2 ho2 hp hfl hj
  go_wp2_with (first | (go_at_call 25; refine Stop.mk ?_) | (go_at_call 36; refine Stop.mk ?_))
  unfold Stop
  refine (HJ.out).mono ?_
  rintro e w3 ⟨o3, c3, rfl, ho3, hk3⟩
  have hlAC : (A ++ C).length ≤ 18 := by rw [List.length_append]; have := HE.out; omega
  have hbAC : Byte (A ++ C) := by
    intro x hx
    rw [List.mem_append] at hx
    rcases hx with hx | hx
    · exact HE.out.2.2.1 x hx
    · exact HE.out.2.2.2 x hx
  generalize hR : A ++ C = R at ho3 hlAC hbAC ⊢
  have HF := Lib.hid (fput_any ho3.row hbAC 4 (by omega) (by omega) c3)
  have HK3 := Lib.hid hk3
  clear ho3 hk3 hlAC hbAC
  go_wp2_with (first | (go_at_call 25; refine Stop.mk ?_) | (go_at_call 36; refine Stop.mk ?_))
  unfold Stop
  refine (HF.out).mono ?_
  rintro e w4 ⟨o4, c4, rfl, ho4, hk4⟩
  have hkk := ((((Kp.refl (fun _ => False) w).alloc (.cells #[.int .i64 tz, .int .i64 v] 42)).trans HK1.out).trans HK2.out).alloc (.cells #[Value.slice o1 A.length c1, Value.slice o2 C.length c2] 22)
  have hk9 := (hkk.trans HK3.out).trans hk4
  have HO4 := Lib.hid (ho4.low (B' := w.heap.size) (hkk.trans HK3.out).size)
  have HK9 := Lib.hid hk9
  clear hk4 ho4 hkk hk9
  generalize hL : (frm 4 R).length = L at HO4 ⊢
  go_wp2
  subst hL
  subst hR
  subst hA
  subst hC
  exact bodyPost_ret (v := .tuple #[.slice o4 (frm 4 (enc t ++ enc n)).length c4, .int .i64 0]) (by simp [results, Tryz.results12, go_sem]) rfl ⟨o4, c4, rfl, HO4.out, HK9.out⟩
set_option maxRecDepth 100000 in
set_option maxHeartbeats 8000000 in
theorem stPut_bad (w : World) (t n : Nat) (ht : t < 281474976710656) (v : Int) (hv : v + 1 = n) (hb : 1099511627776 ≤ t ∨ 16 < n) :
    Calls Tryz.prog 12 #[.agg #[.int .i64 t, .int .i64 v]] w fun e w' => e = .returned (.tuple #[.slice none 0 0, .int .i64 1]) ∧ Kp (fun _ => False) w w' := by
  have HN1 := Lib.hid (fun u => putNumber_good u t (by omega))
  have g2 : ¬ (v < -1) := by omega
  have g1 : ((decide ((1099511627776 : Int) ≤ (t : Int)) || decide (v < -1)) || decide (16 ≤ v)) = true := by simp; omega
  have g0 : (1099511627776 : Int) ≤ (t : Int) ∨ 16 ≤ v := by omega
  have G := Lib.hid g0
  clear hv ht hb g0 g1
  generalize (t : Int) = tz at HN1 G ⊢
  by_cases gt : (1099511627776 : Int) ≤ tz
  · clear G
    go_enter Tryz.func12, Tryz.ntmps12
    go_wp2_with (go_at_call 33; refine Stop.mk ?_)
    unfold Stop
    refine (HN1.out _).mono ?_
    rintro e w1 ⟨o1, c1, rfl, ho1, hk1⟩
    have b1 := hk1.heap (heap_new w _) (fun h => h)
    have hl1 := lt_of_block b1
    have d0 := cell_of b1 0 rfl
    have d1 := cell_of b1 1 rfl
    have HK1 := Lib.hid hk1
    clear b1 ho1 hk1
    go_wp2_with fail
    all_goals exact bodyPost_ret (v := .tuple #[.slice none 0 0, .int .i64 1]) (by simp [results, Tryz.results12, go_sem]) rfl ⟨rfl, ((Kp.refl _ _).alloc _).trans HK1.out⟩
  · have gv : 16 ≤ v := G.out.resolve_left gt
    clear G
    go_enter Tryz.func12, Tryz.ntmps12
    go_wp2_with (go_at_call 33; refine Stop.mk ?_)
    unfold Stop
    refine (HN1.out _).mono ?_
    rintro e w1 ⟨o1, c1, rfl, ho1, hk1⟩
    have b1 := hk1.heap (heap_new w _) (fun h => h)
    have hl1 := lt_of_block b1
    have d0 := cell_of b1 0 rfl
    have d1 := cell_of b1 1 rfl
    have HK1 := Lib.hid hk1
    clear b1 ho1 hk1
    go_wp2_with fail
    all_goals exact bodyPost_ret (v := .tuple #[.slice none 0 0, .int .i64 1]) (by simp [results, Tryz.results12, go_sem]) rfl ⟨rfl, ((Kp.refl _ _).alloc _).trans HK1.out⟩
end Go.Proofs.YtecohkoekifeiaaGreatDoor
namespace Go.Proofs.YtecohkoekifeiaaGreatDoor
open Go.ChangeShapes Go.WideShapes Go.ChangeAt Go.RowKit
set_option linter.unusedVariables false

theorem entry_fit {b : List Int} (hB : Byte b) (h : fitE b) : putE (getE b).1 = b ∧ okE (getE b).1 = true ∧ Byte (getE b).1.data ∧ (getE b).1.data.length ≤ 1048576 := by
  have hb3 : Byte (⟨0, b⟩ : Rd).num.2.num.2.num.2.b := Rd.num_byte (Rd.num_byte (Rd.num_byte hB))
  exact ⟨entry_back hB h.1 h.2.1, h.2.2, (Rd.bytes_byte hb3).2, (Rd.bytes_ok hb3 h.1).2⟩

theorem frames_in (F : Fence) (n : Nat) (h50 : F.fn 50) (hro : F.round = none) (a : Option Addr) (len cap : Nat) (w : World) :
    CallsIn F n Tryz.prog 50 #[.slice a len cap] w fun e w' => e = .returned (.func (.func 62) #[] #[.pointer (some ⟨w.heap.size, 0, none⟩)]) ∧ w' = w.alloc (.cells #[.slice a len cap] 22) := by
  refine callsIn_of_wp Tryz.func50 rfl h50 ?_ hro
  simp only [Tryz.ntmps50, List.size_toArray, List.length_cons, List.length_nil, Nat.reduceAdd, Nat.reduceSub, Array.replicate_succ, Array.replicate_zero, List.push_toArray, List.append_toArray, List.nil_append, List.cons_append]
  gi_wp2
  go_ret
  exact ⟨rfl, rfl⟩
end Go.Proofs.YtecohkoekifeiaaGreatDoor
namespace Go.Proofs.YtecohkoekifeiaaGreatDoor
open Go.ChangeShapes Go.WideShapes Go.ChangeAt Go.RowKit
set_option linter.unusedVariables false

theorem demand_yes (w : World) (e : Int) : Calls Tryz.prog 30 #[.bool true, .int .i64 e] w fun r w' => r = .returned (.tuple #[]) ∧ w' = w := by
  go_enter Tryz.func30, Tryz.ntmps30
  go_wp2
  go_end0
  exact ⟨rfl, rfl⟩
theorem demand_no (w : World) (e : Int) : Calls Tryz.prog 30 #[.bool false, .int .i64 e] w fun r w' => (r = .panicked [{ v := .iface 25 (.int .i64 e), recovered := false }]) ∧ w' = w := by
  go_enter Tryz.func30, Tryz.ntmps30
  go_wp2
  refine ⟨?_, ?_⟩ <;> first | rfl | exact ⟨rfl, rfl⟩
end Go.Proofs.YtecohkoekifeiaaGreatDoor
