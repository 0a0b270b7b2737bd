/-
  Bytes, Join, PutBytes, PutServers, GetServers and right, each walked once.
-/
import Derived.Test.YtecohkoekifeiaaGreatDoorXb
set_option linter.all false
namespace Go.Proofs.YtecohkoekifeiaaGreatDoor
open Go.ChangeShapes Go.WideShapes Go.ChangeAt Go.RowKit
set_option linter.unusedVariables false

/-- What bytes that come leave. -/
def BytesAt (rb : Nat) (G : Option Nat) (r : Rd) (w : World) (e : Ending) (w' : World) : Prop :=
  ∃ o co, e = .returned (.slice o r.bytes.1.length co) ∧ Owns w' w.heap.size 5 1 o r.bytes.1.length co (bytes r.bytes.1) ∧ ∃ a' c', Rdr w' rb G r.bytes.2 a' c' ∧ Kp (fun k => k = rb) w w'

set_option maxHeartbeats 4000000 in
theorem bytes_bad_at {w : World} {rb : Nat} {G : Option Nat} {r : Rd} {a : Option Addr} {c : Nat} (h : Rdr w rb G r a c) (he : r.e ≠ 0) : Calls Tryz.prog 21 #[.pointer (some ⟨rb, 0, none⟩)] w (BytesAt rb G r w) := by
  have H1 := Lib.hid (none_no h.blk (m := true) rfl)
  have H2 := Lib.hid (ok_any h.blk (e := r.e) rfl)
  have H := Lib.hid h
  unfold BytesAt
  rw [Rd.bytes_bad he]
  have hd : decide (r.e = 0) = false := by simpa using he
  rw [hd] at H2
  clear h
  go_enter Tryz.func21, Tryz.ntmps21
  go_wp2_with (first | (go_at_call 45; refine (H1.out).mono ?_; rintro e w1 ⟨rfl, rfl⟩) | (go_at_call 46; refine (H2.out).mono ?_; rintro e w1 ⟨rfl, rfl⟩))
  go_ret
  exact ⟨none, 0, rfl, Owns.nil _ _ _ _, a, c, H.out, Kp.refl _ _⟩

/-- What was read is put back, with an error. -/
theorem back_again {w w1 : World} {rb : Nat} {G : Option Nat} {b b1 : List Int} {e : Int} {a a1 : Option Addr} {c c1 : Nat} (h : Rdr w rb G ⟨0, b⟩ a c) (h1 : w1.heap[rb]? = some (.cells #[.int .i64 e, .slice a1 b1.length c1, .bool true] 99 (0, 0))) (hk : Kp (fun k => k = rb) w w1) :
    Rdr (w1.setCell ⟨rb, 1, none⟩ (.slice a b.length c)) rb G ⟨e, b⟩ a c ∧ Kp (fun k => k = rb) w (w1.setCell ⟨rb, 1, none⟩ (.slice a b.length c)) := by
  have hs := heap_set h1 1 (.slice a b.length c)
  have hk2 := hk.setCell (p := ⟨rb, 1, none⟩) (.inl rfl) (.slice a b.length c)
  exact ⟨⟨by rw [hs]; simp, h.row.kp hk2 (fun g hg e => h.ne (by rw [← h.at_ g hg, e])), h.at_, h.ne, h.cap, h.nn, h.sp⟩, hk2⟩

set_option maxHeartbeats 4000000 in
/-- The number fails. -/
theorem bytes_num_at {w : World} {rb : Nat} {G : Option Nat} {b : List Int} {a : Option Addr} {c : Nat} (h : Rdr w rb G ⟨0, b⟩ a c) (hB : Byte b) (hm : b.length ≤ 140737488351231) (he : (⟨0, b⟩ : Rd).num.2.e ≠ 0) : Calls Tryz.prog 21 #[.pointer (some ⟨rb, 0, none⟩)] w (BytesAt rb G ⟨0, b⟩ w) := by
  have H1 := Lib.hid (none_no h.blk (m := true) rfl)
  have H2 := Lib.hid (ok_any h.blk (e := 0) rfl)
  have HN := Lib.hid (num_reads h hB hm)
  have c1 := cell_of h.blk 1 (v := .slice a b.length c) rfl
  have hbs : (⟨0, b⟩ : Rd).bytes = ([], ⟨(⟨0, b⟩ : Rd).num.2.e, b⟩) := by simp [Rd.bytes, he]
  have hz : (⟨0, b⟩ : Rd).num.1 = 0 := by
    revert he
    unfold Rd.num
    simp only [if_true]
    cases b with
    | nil => simp
    | cons n t =>
      simp only
      repeat' split
      all_goals simp
  unfold BytesAt
  rw [hbs]
  unfold NumAt at HN
  rw [hz] at HN
  generalize (⟨0, b⟩ : Rd).num.2 = q at he HN ⊢
  have H := Lib.hid h
  clear h hbs hz
  go_enter Tryz.func21, Tryz.ntmps21
  go_wp2_with (first | (go_at_call 45; refine (H1.out).mono ?_; rintro e w1 ⟨rfl, rfl⟩) | (go_at_call 20; refine (HN.out).mono ?_; rintro e w2 ⟨rfl, a1, ca1, hr1, hk1⟩; have HR := Lib.hid hr1; have HK := Lib.hid hk1; have d1 := cell_of hr1.blk 1 (v := .slice a1 q.b.length ca1) rfl; have f1 := free_of hr1.blk 1; have H3 := Lib.hid (ok_any hr1.blk (e := q.e) rfl); rw [show decide (q.e = 0) = false by simpa using he] at H3; clear hr1 hk1) | (go_at_call 46; first | (refine (H2.out).mono ?_; rintro e w1 ⟨rfl, rfl⟩) | (refine (H3.out).mono ?_; rintro e w3 ⟨rfl, rfl⟩)))
  go_ret
  obtain ⟨x, y⟩ := back_again H.out HR.out.blk HK.out
  exact ⟨none, 0, rfl, Owns.nil _ _ _ _, a, c, x, y⟩

set_option maxHeartbeats 4000000 in
/-- The length is too great. -/
theorem bytes_long_at {w : World} {rb : Nat} {G : Option Nat} {b : List Int} {a : Option Addr} {c : Nat} (h : Rdr w rb G ⟨0, b⟩ a c) (hB : Byte b) (hm : b.length ≤ 140737488351231) (he : (⟨0, b⟩ : Rd).num.2.e = 0)
    (hl : 1048576 < (⟨0, b⟩ : Rd).num.1) : Calls Tryz.prog 21 #[.pointer (some ⟨rb, 0, none⟩)] w (BytesAt rb G ⟨0, b⟩ w) := by
  have H1 := Lib.hid (none_no h.blk (m := true) rfl)
  have H2 := Lib.hid (ok_any h.blk (e := 0) rfl)
  have HN := Lib.hid (num_reads h hB hm)
  have c1 := cell_of h.blk 1 (v := .slice a b.length c) rfl
  have hbs : (⟨0, b⟩ : Rd).bytes = ([], ⟨21, b⟩) := by simp [Rd.bytes, he, hl]
  unfold BytesAt
  rw [hbs]
  unfold NumAt at HN
  generalize (⟨0, b⟩ : Rd).num = q at he hl HN ⊢
  obtain ⟨m, q⟩ := q
  dsimp only at he hl HN
  have hlI : (1048576 : Int) < (m : Int) := by omega
  have H := Lib.hid h
  clear h hbs
  go_enter Tryz.func21, Tryz.ntmps21
  go_wp2_with (first | (go_at_call 45; refine (H1.out).mono ?_; rintro e w1 ⟨rfl, rfl⟩) | (go_at_call 20; refine (HN.out).mono ?_; rintro e w2 ⟨rfl, a1, ca1, hr1, hk1⟩; have HR := Lib.hid hr1; have HK := Lib.hid hk1; have H3 := Lib.hid (set_any hr1.blk (e := 0) (by rw [he]; rfl) 21); clear hr1 hk1) | (go_at_call 47; refine (H3.out).mono ?_; rintro e w3 ⟨rfl, hb3, hk3⟩; have d1 := cell_of hb3 1 (v := .slice a1 q.b.length ca1) rfl; have f1 := free_of hb3 1; have H4 := Lib.hid (ok_any hb3 (e := 21) rfl); have HB3 := Lib.hid hb3; have HK3 := Lib.hid hk3; clear hb3 hk3) | (go_at_call 46; first | (refine (H2.out).mono ?_; rintro e w1 ⟨rfl, rfl⟩) | (refine (H4.out).mono ?_; rintro e w4 ⟨rfl, rfl⟩)))
  go_ret
  obtain ⟨x, y⟩ := back_again H.out (e := 21) (b1 := q.b) HB3.out (HK.out.trans HK3.out)
  exact ⟨none, 0, rfl, Owns.nil _ _ _ _, a, c, x, y⟩

set_option maxHeartbeats 4000000 in
/-- There are fewer bytes than that. -/
theorem bytes_few_at {w : World} {rb : Nat} {G : Option Nat} {b : List Int} {a : Option Addr} {c : Nat} (h : Rdr w rb G ⟨0, b⟩ a c) (hB : Byte b) (hm : b.length ≤ 140737488351231) (he : (⟨0, b⟩ : Rd).num.2.e = 0)
    (hl : ¬ 1048576 < (⟨0, b⟩ : Rd).num.1) (hf : (⟨0, b⟩ : Rd).num.2.b.length < (⟨0, b⟩ : Rd).num.1) : Calls Tryz.prog 21 #[.pointer (some ⟨rb, 0, none⟩)] w (BytesAt rb G ⟨0, b⟩ w) := by
  have H1 := Lib.hid (none_no h.blk (m := true) rfl)
  have H2 := Lib.hid (ok_any h.blk (e := 0) rfl)
  have HN := Lib.hid (num_reads h hB hm)
  have c1 := cell_of h.blk 1 (v := .slice a b.length c) rfl
  have hbs : (⟨0, b⟩ : Rd).bytes = ([], ⟨20, b⟩) := by simp [Rd.bytes, he, hl, hf]
  unfold BytesAt
  rw [hbs]
  unfold NumAt at HN
  generalize (⟨0, b⟩ : Rd).num = q at he hl hf HN ⊢
  obtain ⟨m, q⟩ := q
  dsimp only at he hl hf HN
  have hlI : ¬ ((1048576 : Int) < (m : Int)) := by omega
  have hfI : (q.b.length : Int) < (m : Int) := by omega
  have H := Lib.hid h
  clear h hbs
  go_enter Tryz.func21, Tryz.ntmps21
  go_wp2_with (first | (go_at_call 45; refine (H1.out).mono ?_; rintro e w1 ⟨rfl, rfl⟩) | (go_at_call 20; refine (HN.out).mono ?_; rintro e w2 ⟨rfl, a1, ca1, hr1, hk1⟩; have HR := Lib.hid hr1; have HK := Lib.hid hk1; have e1 := cell_of hr1.blk 1 (v := .slice a1 q.b.length ca1) rfl; have H3 := Lib.hid (set_any hr1.blk (e := 0) (by rw [he]; rfl) 20); clear hr1 hk1) | (go_at_call 47; refine (H3.out).mono ?_; rintro e w3 ⟨rfl, hb3, hk3⟩; have d1 := cell_of hb3 1 (v := .slice a1 q.b.length ca1) rfl; have f1 := free_of hb3 1; have H4 := Lib.hid (ok_any hb3 (e := 20) rfl); have HB3 := Lib.hid hb3; have HK3 := Lib.hid hk3; clear hb3 hk3) | (go_at_call 46; first | (refine (H2.out).mono ?_; rintro e w1 ⟨rfl, rfl⟩) | (refine (H4.out).mono ?_; rintro e w4 ⟨rfl, rfl⟩)))
  go_ret
  obtain ⟨x, y⟩ := back_again H.out (e := 20) (b1 := q.b) HB3.out (HK.out.trans HK3.out)
  exact ⟨none, 0, rfl, Owns.nil _ _ _ _, a, c, x, y⟩
end Go.Proofs.YtecohkoekifeiaaGreatDoor
namespace Go.Proofs.YtecohkoekifeiaaGreatDoor
open Go.ChangeShapes Go.WideShapes Go.ChangeAt Go.RowKit
set_option linter.unusedVariables false

theorem Owns.low {w : World} {B B' : Nat} {e : TypeId} {size : Nat} {a : Option Addr} {n cap : Nat} {xs : List Value} (h : Owns w B e size a n cap xs) (hb : B' ≤ B) : Owns w B' e size a n cap xs := by
  refine ⟨h.1, ?_⟩
  rcases h.2 with h2 | ⟨g, cap', cur, hv, hge, r⟩
  · exact .inl h2
  · exact .inr ⟨g, cap', cur, hv, by omega, r⟩
theorem Row.take {w : World} {a : Option Addr} {l : List Int} (h : Row w a (bytes l)) (m : Nat) : Row w a (bytes (l.take m)) := by
  intro i v hv
  refine h i v ?_
  simp only [bytes, List.getElem?_map, List.getElem?_take] at hv ⊢
  split at hv
  · exact hv
  · simp at hv
theorem Row.none_nil {w : World} {l : List Int} (h : Row w none (bytes l)) : l = [] := by
  cases l with
  | nil => rfl
  | cons z r => obtain ⟨_, _, e, _⟩ := h 0 (.int .u8 z) rfl; cases e

theorem bytes_fin {w2 w3 : World} {rb : Nat} {G : Option Nat} {q : Rd} {g off c m : Nat} (H : Rdr w2 rb G q (some ⟨g, off, none⟩) c) (hk : Kp (fun _ => False) w2 w3) (he : q.e = 0) (hm : m ≤ q.b.length)
    (a' : Option Addr) (c' : Nat) (ha : a' = some ⟨g, off + m, none⟩ ∨ (q.b.length = m ∧ a' = some ⟨g, off, none⟩)) (hc : q.b.length - m ≤ c') :
    Rdr (w3.setCell ⟨rb, 1, none⟩ (.slice a' (q.b.length - m) c')) rb G ⟨0, q.b.drop m⟩ a' c' ∧ Kp (fun k => k = rb) w2 (w3.setCell ⟨rb, 1, none⟩ (.slice a' (q.b.length - m) c')) := by
  have hb3 := hk.heap H.blk (fun h => h)
  have hset := heap_set hb3 1 (.slice a' (q.b.length - m) c')
  have hne : g ≠ rb := fun e => H.ne (by rw [← H.at_ g rfl, e])
  have hblk : blockOf a' = some g := by rcases ha with rfl | ⟨_, rfl⟩ <;> rfl
  have hk2 : Kp (fun k => k = rb) w2 (w3.setCell ⟨rb, 1, none⟩ (.slice a' (q.b.length - m) c')) := Kp.setCell (S := fun k => k = rb) (hk.mono (fun _ _ h => h.elim)) (p := ⟨rb, 1, none⟩) (.inl rfl) _
  refine ⟨⟨?_, fun i v hv => ?_, fun g' hg' => ?_, H.ne, ?_, fun e => (by rcases ha with rfl | ⟨_, rfl⟩ <;> cases e), fun ad e => (by rcases ha with rfl | ⟨_, rfl⟩ <;> cases e <;> rfl)⟩, hk2⟩
  · rw [hset, he]
    simp
  · have hi : i < (q.b.drop m).length := by
      have := (List.getElem?_eq_some_iff.1 hv).1
      simpa [bytes] using this
    rw [List.length_drop] at hi
    rcases ha with rfl | ⟨e, rfl⟩
    · obtain ⟨g', off', e, hx⟩ := H.row (m + i) v (by
        simp only [bytes, List.getElem?_map, List.getElem?_drop] at hv
        simp only [bytes, List.getElem?_map]
        exact hv)
      cases e
      refine ⟨g, off + m, rfl, ?_⟩
      have hgl := World.block_lt_of_cell? (a := ⟨g, off + (m + i), none⟩) w2 hx
      rw [show off + m + i = off + (m + i) by omega]
      exact (hk2.cell (p := ⟨g, off + (m + i), none⟩) hgl hne).trans hx
    · omega
  · rw [hblk] at hg'
    cases hg'
    exact H.at_ g rfl
  · rw [List.length_drop]; exact hc

set_option maxHeartbeats 4000000 in
theorem bytes_good_at {w : World} {rb : Nat} {G : Option Nat} {b : List Int} {a : Option Addr} {c : Nat} (h : Rdr w rb G ⟨0, b⟩ a c) (hB : Byte b) (hm : b.length ≤ 140737488351231) (he : (⟨0, b⟩ : Rd).num.2.e = 0)
    (hl : ¬ 1048576 < (⟨0, b⟩ : Rd).num.1) (hf : ¬ (⟨0, b⟩ : Rd).num.2.b.length < (⟨0, b⟩ : Rd).num.1) : Calls Tryz.prog 21 #[.pointer (some ⟨rb, 0, none⟩)] w (BytesAt rb G ⟨0, b⟩ w) := by
  have H1 := Lib.hid (none_no h.blk (m := true) rfl)
  have H2 := Lib.hid (ok_any h.blk (e := 0) rfl)
  have HN := Lib.hid (num_reads h hB hm)
  have c1 := cell_of h.blk 1 (v := .slice a b.length c) rfl
  have hbs : (⟨0, b⟩ : Rd).bytes = ((⟨0, b⟩ : Rd).num.2.b.take (⟨0, b⟩ : Rd).num.1, ⟨0, (⟨0, b⟩ : Rd).num.2.b.drop (⟨0, b⟩ : Rd).num.1⟩) := by simp [Rd.bytes, he, hl, hf]
  unfold BytesAt
  rw [hbs]
  unfold NumAt at HN
  generalize (⟨0, b⟩ : Rd).num = q at he hl hf HN ⊢
  obtain ⟨m, q⟩ := q
  dsimp only at he hl hf HN
  have hlI : ¬ ((1048576 : Int) < (m : Int)) := by omega
  have hfI : ¬ ((q.b.length : Int) < (m : Int)) := by omega
  have hm0 : (0 : Int) ≤ (m : Int) := by omega
  have H := Lib.hid h
  clear h hbs
  go_enter Tryz.func21, Tryz.ntmps21
  go_wp2_with (first | (go_at_call 45; refine (H1.out).mono ?_; rintro e w1 ⟨rfl, rfl⟩) | (go_at_call 46; refine (H2.out).mono ?_; rintro e w1 ⟨rfl, rfl⟩) | (go_at_call 20; refine Stop.mk ?_))
  unfold Stop
  refine (HN.out).mono ?_
  rintro e w2 ⟨rfl, a1, ca1, hr1, hk1⟩
  have hcap := hr1.cap
  have hmI : (m : Int) ≤ (ca1 : Int) := by omega
  obtain ⟨qe, qb⟩ := q
  dsimp only at he hl hf hcap hlI hfI
  subst he
  cases a1 with
  | none =>
    obtain rfl : ca1 = 0 := hr1.nn rfl
    obtain rfl : qb = [] := hr1.row.none_nil
    obtain rfl : m = 0 := by simpa using hf
    have d1 := cell_of hr1.blk 1 (v := .slice none 0 0) rfl
    have f1 := free_of hr1.blk 1
    have H3 := Lib.hid (ok_any hr1.blk (e := 0) rfl)
    have HC := Lib.hid (clone_bytes (w := w2) (a := none) (zs := []) (Row.nil _ _) (by simp) 0)
    have hb2 := hr1.blk
    have HR := Lib.hid hr1
    have HK := Lib.hid hk1
    clear hr1 hk1
    go_wp2_with (first | (go_at_call 46; refine (H3.out).mono ?_; rintro e w4 ⟨rfl, rfl⟩) | (go_at_call 44; refine Stop.mk ?_))
    unfold Stop
    refine (HC.out).mono ?_
    rintro e w5 ⟨o, co, rfl, ho, hk5⟩
    have e1 := cell_of (hk5.heap HR.out.blk (fun h => h)) 1 (v := .slice none 0 0) rfl
    have f2 := free_of (hk5.heap HR.out.blk (fun h => h)) 1
    have hset := heap_set (hk5.heap HR.out.blk (fun h => h)) 1 (.slice none 0 0)
    have HS := Lib.hid hset
    have HO := Lib.hid ho
    have HK5 := Lib.hid hk5
    clear ho hk5 hset
    go_wp2
    go_ret
    have hk9 : Kp (fun k => k = rb) w4 (w5.setCell ⟨rb, 1, none⟩ (.slice none 0 0)) := Kp.setCell (S := fun k => k = rb) (HK5.out.mono (fun _ _ h => h.elim)) (p := ⟨rb, 1, none⟩) (.inl rfl) _
    have hsz := HK.out.size
    have hlt := lt_of_block HR.out.blk
    refine ⟨o, co, by first | rfl | simp, (Owns.low (HO.out.kp (Kp.setCell (S := fun k => k = rb) (Kp.refl _ _) (p := ⟨rb, 1, none⟩) (.inl rfl) _) (fun g hg e => by have := (HO.out.from hg).1; omega)) hsz), ⟨none, 0, ⟨HS.out, Row.nil _ _, fun g hg => (by cases hg), HR.out.ne, Nat.le_refl _, fun _ => rfl, fun ad e => (by cases e)⟩⟩, HK.out.trans hk9⟩
  | some ad =>
    obtain ⟨g, off, sp⟩ := ad
    obtain rfl : sp = none := hr1.sp _ rfl
    have d1 := cell_of hr1.blk 1 (v := .slice (some ⟨g, off, none⟩) qb.length ca1) rfl
    have H3 := Lib.hid (ok_any hr1.blk (e := 0) rfl)
    have hzl : (qb.take m).length = m := by rw [List.length_take]; omega
    have hc := clone_bytes (hr1.row.take m) (by simp only [hzl]; omega) ca1
    rw [hzl] at hc
    have HC := Lib.hid hc
    have HR := Lib.hid hr1
    have HK := Lib.hid hk1
    have HZ := Lib.hid hzl
    clear hr1 hk1 hc hzl
    go_wp2_with (first | (go_at_call 46; refine (H3.out).mono ?_; rintro e w4 ⟨rfl, rfl⟩) | (go_at_call 44; refine Stop.mk ?_))
    unfold Stop
    refine (HC.out).mono ?_
    rintro e w5 ⟨o, co, rfl, ho, hk5⟩
    have e1 := cell_of (hk5.heap HR.out.blk (fun h => h)) 1 (v := .slice (some ⟨g, off, none⟩) qb.length ca1) rfl
    have f1 := free_of (hk5.heap HR.out.blk (fun h => h)) 1
    have hsub : (qb.length : Int) - (m : Int) = ((qb.length - m : Nat) : Int) := by omega
    have HO := Lib.hid ho
    have HK5 := Lib.hid hk5
    clear ho hk5
    go_wp2
    all_goals go_ret
    all_goals have hsz := HK.out.size
    all_goals have hlt := lt_of_block HR.out.blk
    · have hqe : qb.length = m := by omega
      obtain ⟨x, y⟩ := bytes_fin (m := m) HR.out HK5.out rfl (by show m ≤ qb.length; omega) (some ⟨g, off, none⟩) 0 (.inr ⟨hqe, rfl⟩) (by dsimp only; omega)
      have hmin : min m qb.length = m := by omega
      refine ⟨o, co, by simp [hmin], ?_, ⟨_, _, x⟩, HK.out.trans y⟩
      simp only [hmin]
      exact Owns.low (HO.out.kp (Kp.setCell (S := fun k => k = rb) (Kp.refl _ _) (p := ⟨rb, 1, none⟩) (.inl rfl) _) (fun g hg e => by have := (HO.out.from hg).1; omega)) hsz
    · obtain ⟨x, y⟩ := bytes_fin (m := m) HR.out HK5.out rfl (by show m ≤ qb.length; omega) (some ⟨g, off + m, none⟩) (ca1 - m) (.inl rfl) (by dsimp only; omega)
      have hmin : min m qb.length = m := by omega
      refine ⟨o, co, by simp [hmin], ?_, ⟨_, _, x⟩, HK.out.trans y⟩
      simp only [hmin]
      exact Owns.low (HO.out.kp (Kp.setCell (S := fun k => k = rb) (Kp.refl _ _) (p := ⟨rb, 1, none⟩) (.inl rfl) _) (fun g hg e => by have := (HO.out.from hg).1; omega)) hsz

/-- Bytes that come: of whatever bytes. -/
theorem bytes_reads {w : World} {rb : Nat} {G : Option Nat} {r : Rd} {a : Option Addr} {c : Nat} (h : Rdr w rb G r a c) (hB : Byte r.b) (hm : r.b.length ≤ 140737488351231) :
    Calls Tryz.prog 21 #[.pointer (some ⟨rb, 0, none⟩)] w (BytesAt rb G r w) := by
  by_cases he : r.e = 0
  · obtain ⟨e, b⟩ := r
    have he' : e = 0 := he
    subst he'
    by_cases h1 : (⟨0, b⟩ : Rd).num.2.e = 0
    · by_cases h2 : 1048576 < (⟨0, b⟩ : Rd).num.1
      · exact bytes_long_at h hB hm h1 h2
      · by_cases h3 : (⟨0, b⟩ : Rd).num.2.b.length < (⟨0, b⟩ : Rd).num.1
        · exact bytes_few_at h hB hm h1 h2 h3
        · exact bytes_good_at h hB hm h1 h2 h3
    · exact bytes_num_at h hB hm h1
  · exact bytes_bad_at h he
end Go.Proofs.YtecohkoekifeiaaGreatDoor
namespace Go.Proofs.YtecohkoekifeiaaGreatDoor
open Go.ChangeShapes Go.WideShapes Go.ChangeAt Go.RowKit
set_option linter.unusedVariables false

set_option maxHeartbeats 4000000 in
theorem join_any {w : World} {p : Option Addr} {l : List Pt} (hP : Pts w p l) (hm : (flat l).length ≤ 140737488355328) (hl : l.length ≤ 1000) (cp : Nat) :
    Calls Tryz.prog 25 #[.slice p l.length cp] w fun e w' => ∃ o co, e = .returned (.slice o (flat l).length co) ∧ Owns w' w.heap.size 5 1 o (flat l).length co (bytes (flat l)) ∧ Kp (fun _ => False) w w' := by
  have HC := Lib.hid (concat_any hP hm hl cp)
  clear hP
  go_enter Tryz.func25, Tryz.ntmps25
  go_wp2_with (go_at_call 49; refine (HC.out).mono ?_; rintro e w1 ⟨o, co, rfl, ho, hk⟩; have HO := Lib.hid ho; have HK := Lib.hid hk; clear ho hk)
  go_ret
  exact ⟨o, co, rfl, HO.out, HK.out⟩

/-- Parts in a slice just made. -/
theorem Pts.new {w : World} {l : List Pt} {cs : Array Value} (hc : cs.toList = l.map Pt.val) (h : ∀ r ∈ l, Row w r.a (bytes r.d)) : Pts (w.alloc (.cells cs 22 (0, 0))) (some ⟨w.heap.size, 0, none⟩) l := by
  refine ⟨fun i v hv => ⟨_, _, rfl, ?_⟩, fun r hr => (h r hr).no ((Kp.refl _ _).alloc _)⟩
  rw [← hc] at hv
  exact cell_of (heap_new w _) (0 + i) (by simpa using hv)

/-- Bytes, as they are written. -/
def encB (b : List Int) : List Int := enc b.length ++ b

set_option maxHeartbeats 4000000 in
theorem putBytes_good {w : World} {a : Option Addr} {b : List Int} (h : Row w a (bytes b)) (hb : b.length ≤ 1048576) (c : Nat) :
    Calls Tryz.prog 24 #[.slice a b.length c] w fun e w' => ∃ o co, e = .returned (.tuple #[.slice o (encB b).length co, .int .i64 0]) ∧ Owns w' w.heap.size 5 1 o (encB b).length co (bytes (encB b)) ∧ Kp (fun _ => False) w w' := by
  have h1 : ¬ ((1048576 : Int) < (b.length : Int)) := by omega
  have HN := Lib.hid (number_any w b.length (by omega))
  have H := Lib.hid h
  clear h
  go_enter Tryz.func24, Tryz.ntmps24
  go_wp2_with (first | (go_at_call 26; refine (HN.out).mono ?_; rintro e w1 ⟨o1, co1, rfl, ho, hk⟩; have HO := Lib.hid ho; have HK := Lib.hid hk; clear ho hk) | (go_at_call 25; refine Stop.mk ?_))
  unfold Stop
  have hp := Pts.new (w := w1) (l := [⟨o1, enc b.length, co1⟩, ⟨a, b, c⟩]) (cs := #[Value.slice o1 (enc b.length).length co1, Value.slice a b.length c]) rfl (by
    intro r hr
    simp only [List.mem_cons, List.not_mem_nil, or_false] at hr
    rcases hr with rfl | rfl
    · exact HO.out.row
    · exact H.out.no HK.out)
  have hfl : flat [⟨o1, enc b.length, co1⟩, ⟨a, b, c⟩] = encB b := by simp [flat, encB]
  have hel := le_len (n := b.length) (by omega)
  have hj := join_any hp (by rw [hfl, encB, List.length_append, enc, List.length_cons]; omega) (by simp) 2
  rw [hfl] at hj
  refine Calls.mono hj ?_
  rintro e w2 ⟨o2, co2, rfl, ho, hk⟩
  have HO2 := Lib.hid ho
  have HK2 := Lib.hid hk
  clear ho hk
  go_wp2
  exact bodyPost_ret (v := .tuple #[.slice o2 (encB b).length co2, .int .i64 0]) (by simp [results, Tryz.results24, go_sem]) rfl ⟨o2, co2, rfl, HO2.out.low (by have := HK.out.size; simp; omega), (HK.out.alloc _).trans HK2.out⟩
set_option maxHeartbeats 4000000 in
theorem putBytes_bad (w : World) (a : Option Addr) (n c : Nat) (hn : 1048576 < n) :
    Calls Tryz.prog 24 #[.slice a n c] w fun e w' => e = .returned (.tuple #[.slice none 0 0, .int .i64 6]) ∧ w' = w := by
  have h1 : ((1048576 : Int) < (n : Int)) := by omega
  go_enter Tryz.func24, Tryz.ntmps24
  go_wp2_with fail
  all_goals exact bodyPost_ret (v := .tuple #[.slice none 0 0, .int .i64 6]) (by simp [results, Tryz.results24, go_sem]) rfl ⟨rfl, rfl⟩
end Go.Proofs.YtecohkoekifeiaaGreatDoor
namespace Go.Proofs.YtecohkoekifeiaaGreatDoor
open Go.ChangeShapes Go.WideShapes Go.ChangeAt Go.RowKit
set_option linter.unusedVariables false

def srvGo : Int → List Int → Option (List Int)
  | _, [] => some []
  | last, x :: r => if x ≤ last ∨ 16 ≤ x then none else (srvGo x r).map (enc x.toNat ++ ·)
/-- The servers, as they are written. -/
def srv (xs : List Int) : Option (List Int) := if xs.length < 1 ∨ 7 < xs.length then none else (srvGo (-1) xs).map (enc xs.length ++ ·)

def SrvAt (xs : List Int) (w : World) (e : Ending) (w' : World) : Prop :=
  Kp (fun _ => False) w w' ∧ ((srv xs = none ∧ e = .returned (.tuple #[.slice none 0 0, .int .i64 1])) ∨ ∃ bs o co, srv xs = some bs ∧ e = .returned (.tuple #[.slice o bs.length co, .int .i64 0]) ∧ Owns w' w.heap.size 5 1 o bs.length co (bytes bs))

theorem Row.at_i64 {w : World} {a : Option Addr} {xs : List Int} (h : Row w a (ints xs)) {k : Nat} (hk : k < xs.length) : ∃ b off, a = some ⟨b, off, none⟩ ∧ w.cell? ⟨b, off + k, none⟩ = some (.int .i64 (xs.getD k 0)) := h.int hk
theorem enc_len {n : Nat} (h : n < 9223372036854775808) : (enc n).length ≤ 9 := by
  have := le_len h
  rw [enc, List.length_cons]; omega
theorem drop_getD {xs : List Int} {k : Nat} (hk : k < xs.length) : xs.drop k = xs.getD k 0 :: xs.drop (k + 1) := by
  rw [List.drop_eq_getElem_cons hk]
  simp [List.getD, hk]

set_option maxHeartbeats 4000000 in
theorem putServers_out (w : World) (a : Option Addr) (xs : List Int) (c : Nat) (hx : xs.length < 1 ∨ 7 < xs.length) :
    Calls Tryz.prog 8 #[.slice a xs.length c] w (SrvAt xs w) := by
  have h0 : srv xs = none := by unfold srv; rw [if_pos hx]
  have h1 : (decide ((xs.length : Int) < 1) || decide ((7 : Int) < (xs.length : Int))) = true := by simp; omega
  go_enter Tryz.func8, Tryz.ntmps8
  go_wp2_with fail
  all_goals exact bodyPost_ret (v := .tuple #[.slice none 0 0, .int .i64 1]) (by simp [results, Tryz.results8, go_sem]) rfl ⟨Kp.refl _ _, .inl ⟨h0, rfl⟩⟩

set_option maxHeartbeats 8000000 in
theorem putServers_in {w : World} {a : Option Addr} {xs : List Int} (h : Row w a (ints xs)) (c : Nat) (hx : ¬ (xs.length < 1 ∨ 7 < xs.length)) :
    Calls Tryz.prog 8 #[.slice a xs.length c] w (SrvAt xs w) := by
  have h0 : srv xs = (srvGo (-1) xs).map (enc xs.length ++ ·) := by unfold srv; rw [if_neg hx]
  have h1 : ¬ ((xs.length : Int) < 1) := by omega
  have h2 : ¬ ((7 : Int) < (xs.length : Int)) := by omega
  have HN := Lib.hid (number_any w xs.length (by omega))
  have H := Lib.hid h
  have H0 := Lib.hid h0
  clear h h0
  go_enter Tryz.func8, Tryz.ntmps8
  go_wp2_with (go_at_call 26; refine (HN.out).mono ?_; rintro e w1 ⟨o1, co1, rfl, ho1, hk1⟩; have HO1 := Lib.hid ho1; have HK1 := Lib.hid hk1; clear ho1 hk1)
  go_loopw [4, 5, 21] (fun o last i w2 => ∃ (k : Nat) (oa : Option Addr) (co : Nat) (la : Int) (A : List Int), i = .int .i64 k ∧ k ≤ xs.length ∧ last = .int .i64 la ∧ -1 ≤ la ∧ o = .slice oa A.length co ∧ A.length ≤ 9 + 9 * k ∧ srv xs = (srvGo la (xs.drop k)).map (A ++ ·) ∧ Owns w2 w.heap.size 5 1 oa A.length co (bytes A) ∧ Kp (fun _ => False) w w2) (fun _ _ i _ => xs.length - (intOf i).toNat)
  case atStart =>
    have hel2 := enc_len (n := xs.length) (by omega)
    exact ⟨0, o1, co1, -1, enc xs.length, rfl, Nat.zero_le _, rfl, by omega, rfl, by omega, by rw [H0.out]; rfl, HO1.out, HK1.out⟩
  case round =>
    obtain ⟨k, oa, co, la, A, rfl, hk, rfl, hla, rfl, hA, hs, ho, hK⟩ := hrel
    by_cases hlt : k < xs.length
    · obtain ⟨b, off, rfl, hc⟩ := (H.out.no hK).at_i64 hlt
      have hd := drop_getD hlt
      generalize xs.getD k 0 = x at hc hd
      have hkI : (k : Int) < (xs.length : Int) := by omega
      have hk0 : (0 : Int) ≤ (k : Int) := by omega
      rw [hd, srvGo] at hs
      have HS := Lib.hid hs
      have HK := Lib.hid hK
      have HO := Lib.hid ho
      have HA := Lib.hid hA
      clear hs hd hA H0
      by_cases hbad : x ≤ la ∨ 16 ≤ x
      · have hb : (decide (x ≤ la) || decide (16 ≤ x)) = true := by simpa using hbad
        clear ho hK
        have h9 : srv xs = none := by
          have := HS.out
          rw [if_pos hbad] at this
          rw [this]; rfl
        have H9 := Lib.hid h9
        clear h9
        go_wp2_with fail
        all_goals exact bodyPost_ret (v := .tuple #[.slice none 0 0, .int .i64 1]) (by simp [results, Tryz.results8, go_sem]) rfl ⟨HK.out, .inl ⟨H9.out, rfl⟩⟩
      · have hb1 : ¬ x ≤ la := fun e => hbad (.inl e)
        have hb2 : ¬ 16 ≤ x := fun e => hbad (.inr e)
        obtain ⟨n, rfl⟩ : ∃ n : Nat, x = n := ⟨x.toNat, by omega⟩
        have hsr := HS.out
        rw [if_neg hbad] at hsr
        have HS2 := Lib.hid hsr
        have HN2 := Lib.hid (number_any wr n (by omega))
        clear hsr HS ho hK
        go_wp2_with (first | (go_at_call 26; refine (HN2.out).mono ?_; rintro e w3 ⟨o3, co3, rfl, ho3, hk3⟩; have HO3 := Lib.hid ho3; have HK3 := Lib.hid hk3; clear ho3 hk3) | (at_builtin; refine Stop.mk ?_))
        unfold Stop
        have hel := enc_len (n := n) (by omega)
        have hA := HA.out
        refine wpList_app rfl _ _ 22 rfl w.heap.size 5 info5 Tryz.underlying22 rfl (by decide) rfl (HO.out.kp HK3.out (fun _ _ h => h)) rfl (news := bytes (enc n)) (by simp [bytes]) HO3.out.row.news (one_bytes _) (by unfold maxLen; omega) (by omega) (Nat.le_trans HK.out.size HK3.out.size) ?_
        intro a' cap' w4 ho4 hk4
        have hK4 : Kp (fun _ => False) w w4 := (HK.out.trans HK3.out).andThen hk4 (fun i hi e => by have := (Owns.from HO.out e.symm).1; omega)
        have hAA : A.length + (enc n).length = (A ++ enc n).length := by simp
        rw [show bytes A ++ bytes (enc n) = bytes (A ++ enc n) by simp [bytes], hAA] at ho4
        rw [hAA]
        have hQ2 : (A ++ enc n).length ≤ 9 + 9 * (k + 1) := by rw [List.length_append]; omega
        have hs4 : srv xs = (srvGo n (xs.drop (k + 1))).map ((A ++ enc n) ++ ·) := by
          rw [HS2.out, Option.map_map]
          congr 1
          funext l
          simp
        generalize A ++ enc n = A2 at ho4 hQ2 hs4 ⊢
        have HO4 := Lib.hid ho4
        have HK4 := Lib.hid hK4
        have HQ2 := Lib.hid hQ2
        have HS4 := Lib.hid hs4
        clear hk4 ho4 hK4 hA hQ2 hel hAA hs4
        go_wp2
        go_roundw
        case rel => exact ⟨k + 1, a', cap', n, A2, by go_num, by omega, rfl, by omega, rfl, HQ2.out, HS4.out, HO4.out, HK4.out⟩
        case measure => simp [intOf]; omega
    · obtain rfl : k = xs.length := by omega
      rw [List.drop_length, srvGo] at hs
      have HO := Lib.hid ho
      have HK := Lib.hid hK
      have h9 : srv xs = some A := by rw [hs]; simp
      have H9 := Lib.hid h9
      clear ho hK hs h9
      go_wp2_with fail
      all_goals exact bodyPost_ret (v := .tuple #[.slice oa A.length co, .int .i64 0]) (by simp [results, Tryz.results8, go_sem]) rfl ⟨HK.out, .inr ⟨_, _, _, H9.out, rfl, HO.out⟩⟩

theorem putServers_any {w : World} {a : Option Addr} {xs : List Int} (h : Row w a (ints xs)) (c : Nat) :
    Calls Tryz.prog 8 #[.slice a xs.length c] w (SrvAt xs w) := by
  by_cases hx : xs.length < 1 ∨ 7 < xs.length
  · exact putServers_out w a xs c hx
  · exact putServers_in h c hx
end Go.Proofs.YtecohkoekifeiaaGreatDoor
namespace Go.Proofs.YtecohkoekifeiaaGreatDoor
open Go.ChangeShapes Go.WideShapes Go.ChangeAt Go.RowKit
set_option linter.unusedVariables false

theorem byte_inj : ∀ {xs ys : List Int}, Byte xs → Byte ys → xs.map (fun n => UInt8.ofNat n.toNat) = ys.map (fun n => UInt8.ofNat n.toNat) → xs = ys
  | [], [], _, _, _ => rfl
  | [], y :: ys, _, _, h => by simp at h
  | x :: xs, [], _, _, h => by simp at h
  | x :: xs, y :: ys, hx, hy, h => by
    simp only [List.map_cons, List.cons.injEq] at h
    have h1 := congrArg UInt8.toNat h.1
    have a := hx x (by simp)
    have b := hy y (by simp)
    simp only [UInt8.toNat_ofNat'] at h1
    rw [byte_inj (fun c hc => hx c (by simp [hc])) (fun c hc => hy c (by simp [hc])) h.2]
    congr 1
    omega
theorem str_inj {xs ys : List Int} (hx : Byte xs) (hy : Byte ys) (h : strOfNums xs = strOfNums ys) : xs = ys := by
  have h2 := congrArg (fun s : ByteArray => s.data.toList) h
  simp only [strOfNums_data] at h2
  exact byte_inj hx hy h2
theorem str_self (s : ByteArray) : (s.toList == s.toList) = true := by simp

set_option maxHeartbeats 4000000 in
theorem equal_dec {w : World} {a b : Option Addr} {xs ys : List Int} (hx : Byte xs) (hy : Byte ys) (ha : Row w a (bytes xs)) (hb : Row w b (bytes ys)) (c d : Nat) :
    Calls Tryz.prog 27 #[.slice a xs.length c, .slice b ys.length d] w fun e w' => e = .returned (.bool (decide (xs = ys))) ∧ w' = w := by
  have cv1 := ha.str c
  have cv2 := hb.str d
  have hd : decide (xs = ys) = ((strOfNums xs).toList == (strOfNums ys).toList) := by
    by_cases h : xs = ys
    · subst h; simp
    · rw [decide_eq_false h]
      symm
      rw [Bool.eq_false_iff]
      intro h2
      exact h (str_inj hx hy (str_eq h2))
  rw [hd]
  generalize xs.length = n at cv1 ⊢
  generalize ys.length = m at cv2 ⊢
  generalize strOfNums xs = s at cv1 ⊢
  generalize strOfNums ys = t at cv2 ⊢
  clear ha hb hd
  go_enter Tryz.func27, Tryz.ntmps27
  go_wp2
  go_ret
  exact ⟨by simp, rfl⟩

theorem le_byte : ∀ n : Nat, Byte (le n) := by
  intro n
  induction n using Nat.strongRecOn with
  | _ n ih =>
    by_cases h : n = 0
    · subst h; rw [le_zero]; intro c hc; cases hc
    · rw [le_pos h]
      intro c hc
      simp only [List.mem_cons] at hc
      rcases hc with rfl | hc
      · omega
      · exact ih (n / 256) (by omega) c hc
theorem enc_byte {n : Nat} (h : n < 9223372036854775808) : Byte (enc n) := by
  intro c hc
  rw [enc, List.mem_cons] at hc
  rcases hc with rfl | hc
  · have := le_len h; omega
  · exact le_byte n c hc
theorem srvGo_byte : ∀ {xs : List Int} {la : Int} {bs : List Int}, srvGo la xs = some bs → Byte bs
  | [], la, bs, h => by
    cases h
    intro c hc; cases hc
  | x :: r, la, bs, h => by
    rw [srvGo] at h
    split at h
    · cases h
    · rename_i hb
      cases hr : srvGo x r with
      | none => rw [hr] at h; cases h
      | some q =>
        rw [hr] at h
        simp only [Option.map_some, Option.some.injEq] at h
        subst h
        intro c hc
        rw [List.mem_append] at hc
        rcases hc with hc | hc
        · exact enc_byte (by omega) c hc
        · exact srvGo_byte hr c hc
theorem srv_byte {xs bs : List Int} (hl : xs.length < 9223372036854775808) (h : srv xs = some bs) : Byte bs := by
  unfold srv at h
  split at h
  · cases h
  · cases hr : srvGo (-1) xs with
    | none => rw [hr] at h; cases h
    | some q =>
      rw [hr] at h
      simp only [Option.map_some, Option.some.injEq] at h
      subst h
      intro c hc
      rw [List.mem_append] at hc
      rcases hc with hc | hc
      · exact enc_byte hl c hc
      · exact srvGo_byte hr c hc

/-- The servers' numbers, as they are read. -/
def srvRead (b : List Int) : List Int := (Rd.nums (min (⟨0, b⟩ : Rd).num.1 7) (⟨0, b⟩ : Rd).num.2).1.map (fun n : Nat => (n : Int))
/-- GetServers, of bytes. -/
def getS (b : List Int) : Option (List Int) := if srv (srvRead b) = some b then some (srvRead b) else none
theorem getS_back {b xs : List Int} (h : getS b = some xs) : srv xs = some b := by
  unfold getS at h
  split at h
  · rename_i h2; cases h; exact h2
  · cases h

def GetSAt (b : List Int) (w : World) (e : Ending) (w' : World) : Prop :=
  Kp (fun _ => False) w w' ∧ ((getS b = none ∧ e = .returned (.tuple #[.slice none 0 0, .int .i64 21])) ∨ ∃ xs o co, getS b = some xs ∧ e = .returned (.tuple #[.slice o xs.length co, .int .i64 0]) ∧ Owns w' w.heap.size 3 1 o xs.length co (ints xs))

theorem one_ints (zs : List Int) : ∀ u ∈ ints zs, u.oneCell' = true := by
  intro u hu
  simp [ints] at hu
  obtain ⟨z, _, rfl⟩ := hu
  rfl
theorem num_lt {r : Rd} : r.num.2.b.length ≤ r.b.length := by
  unfold Rd.num
  split
  · split
    · simp
    · rename_i n t hb
      rw [hb]
      split
      · simp
      · split
        · simp
        · split
          · simp
          · simp; omega
  · simp

set_option maxHeartbeats 4000000 in
/-- A reader is made; where its bytes lie is told. -/
theorem new_in {w : World} {a : Option Addr} {zs : List Int} (hr : Row w a (bytes zs)) (hm : zs.length ≤ 140737488355328) (c : Nat) :
    Calls Tryz.prog 19 #[.slice a zs.length c] w fun e w' => ∃ rb G o co, e = .returned (.pointer (some ⟨rb, 0, none⟩)) ∧ Rdr w' rb G ⟨0, zs⟩ o co ∧ w.heap.size ≤ rb ∧ (∀ g, G = some g → w.heap.size ≤ g ∧ g < w'.heap.size) ∧ Kp (fun _ => False) w w' := by
  have HC := Lib.hid (clone_bytes hr hm c)
  clear hr hm
  obtain ⟨n, hn⟩ : ∃ n, n = zs.length := ⟨_, rfl⟩
  rw [← hn] at HC ⊢
  have HN := Lib.hid hn
  clear hn
  go_enter Tryz.func19, Tryz.ntmps19
  go_wp2_with (go_at_call 44; refine (HC.out).mono ?_; rintro e w1 ⟨o, co, rfl, ho, hk⟩; have HO := Lib.hid ho; have HK := Lib.hid hk; clear ho hk)
  go_ret
  have hk2 := HK.out.alloc (.cells #[.int .i64 0, .slice o n co, .bool true] 99)
  refine ⟨w1.heap.size, blockOf o, o, co, rfl, ⟨?_, ?_, fun g hg => hg.symm, ?_, by rw [← HN.out]; exact HO.out.cap, fun e => HO.out.capNone e, fun ad e => HO.out.spot e⟩, HK.out.size, fun g hg => ⟨(HO.out.from hg).1, by have := (HO.out.from hg).2; simp; omega⟩, hk2⟩
  · rw [← HN.out]; exact heap_new _ _
  · have h := HO.out.row
    exact h.kp ((Kp.refl (fun _ => False) _).alloc _) (fun _ _ h => h)
  · intro hx
    have := (HO.out.from hx).2
    omega

theorem Row.old {w w' : World} {a : Option Addr} {vs : List Value} (h : Row w a vs) (k : Kp (fun k => w.heap.size ≤ k) w w') : Row w' a vs := by
  intro i v hv
  obtain ⟨b, off, rfl, hc⟩ := h i v hv
  have hl : b < w.heap.size := World.block_lt_of_cell? w _ hc
  exact ⟨b, off, rfl, (k.cell (p := ⟨b, off + i, none⟩) hl (by show ¬ w.heap.size ≤ b; omega)).trans hc⟩
/-- A reader is left as it was. -/
theorem Rdr.kp {w w' : World} {rb : Nat} {G : Option Nat} {r : Rd} {a : Option Addr} {c : Nat} (h : Rdr w rb G r a c) {S : Nat → Prop} (k : Kp S w w') (h1 : ¬ S rb) (h2 : ∀ g, G = some g → ¬ S g) : Rdr w' rb G r a c :=
  ⟨k.heap h.blk h1, h.row.kp k (fun g hg => h2 g (h.at_ g hg).symm), h.at_, h.ne, h.cap, h.nn, h.sp⟩

set_option maxHeartbeats 8000000 in
theorem getServers_any {w : World} {a : Option Addr} {b : List Int} (h : Row w a (bytes b)) (hB : Byte b) (hm : b.length ≤ 140737488351231) (c : Nat) :
    Calls Tryz.prog 7 #[.slice a b.length c] w (GetSAt b w) := by
  have HN := Lib.hid (new_in h (by omega) c)
  have H := Lib.hid h
  clear h
  go_enter Tryz.func7, Tryz.ntmps7
  go_wp2_with (first | (go_at_call 19; refine (HN.out).mono ?_; rintro e w1 ⟨rb, G, o1, co1, rfl, hr1, hrb, hG, hk1⟩; have HR1 := Lib.hid hr1; have HG := Lib.hid hG; have HK1 := Lib.hid hk1; have HU1 := Lib.hid (num_reads hr1 hB (by omega)); clear hr1 hG hk1) | (go_at_call 20; refine Stop.mk ?_))
  unfold Stop
  refine (HU1.out).mono ?_
  rintro e w2 ⟨rfl, a2, c2, hr2, hk2⟩
  have hsr : srvRead b = (Rd.nums (min (⟨0, b⟩ : Rd).num.1 7) (⟨0, b⟩ : Rd).num.2).1.map (fun n : Nat => (n : Int)) := rfl
  have hb2 : Byte (⟨0, b⟩ : Rd).num.2.b := Rd.num_byte hB
  have hl2 : (⟨0, b⟩ : Rd).num.2.b.length ≤ b.length := num_lt (r := ⟨0, b⟩)
  generalize (⟨0, b⟩ : Rd).num = q at hr2 hsr hb2 hl2 ⊢
  obtain ⟨m, q⟩ := q
  dsimp only at hr2 hsr hb2 hl2 ⊢
  have hrl := lt_of_block HR1.out.blk
  have HR2 := Lib.hid hr2
  have HK2 := Lib.hid hk2
  obtain ⟨mm, hmm⟩ : ∃ mm : Nat, mm = min m 7 := ⟨_, rfl⟩
  rw [← hmm] at hsr
  have hm7 : mm ≤ 7 := by omega
  have HS := Lib.hid hsr
  have HM := Lib.hid hmm
  clear hr2 hk2 hsr HU1 HN hmm
  go_wp2_with fail
  all_goals first | rw [show (7 : Int) = (mm : Int) by have := HM.out; omega] | rw [show (m : Int) = (mm : Int) by have := HM.out; omega]
  all_goals clear HM
  all_goals (
    go_loopw [5, 13] (fun o i w3 => ∃ (k : Nat) (oa : Option Addr) (co : Nat) (A : List Int) (r : Rd), i = .int .i64 k ∧ k ≤ mm ∧ o = .slice oa A.length co ∧ A.length = k ∧ srvRead b = A ++ (Rd.nums (mm - k) r).1.map (fun n : Nat => (n : Int)) ∧ Byte r.b ∧ r.b.length ≤ b.length ∧ Owns w3 w1.heap.size 3 1 oa A.length co (ints A) ∧ (∃ a' c', Rdr w3 rb G r a' c') ∧ Kp (fun k => w.heap.size ≤ k) w w3 ∧ w1.heap.size ≤ w3.heap.size) (fun _ i _ => mm - (intOf i).toNat)
    case atStart => exact ⟨0, none, 0, [], q, rfl, Nat.zero_le _, rfl, rfl, by simpa using HS.out, hb2, hl2, Owns.nil _ _ _ _, ⟨a2, c2, HR2.out⟩, HK1.out.no.trans (HK2.out.eq hrb), HK2.out.size⟩
    case round =>
      obtain ⟨k, oa, co, A, r, rfl, hk, rfl, hA, hs, hbr, hlr, ho, ⟨a3, c3, hr⟩, hK, hsz⟩ := hrel
      have HS3 := Lib.hid hs
      have HO := Lib.hid ho
      have HR3 := Lib.hid hr
      have HK3 := Lib.hid hK
      have HA := Lib.hid hA
      by_cases hlt : k < mm
      · have hkI : (k : Int) < (mm : Int) := by omega
        have HU := Lib.hid (num_reads hr hbr (by omega))
        clear hs ho hr hK hA
        go_wp2_with (first | (go_at_call 20; refine Stop.mk ?_) | (at_builtin; refine Stop.mk ?_))
        unfold Stop
        refine (HU.out).mono ?_
        rintro e w4 ⟨rfl, a4, c4, hr4, hk4⟩
        have HR4 := Lib.hid hr4
        have HK4 := Lib.hid hk4
        clear hr4 hk4
        go_wp2_with (first | (at_builtin; refine Stop.mk ?_))
        unfold Stop
        have hfar : ∀ g, blockOf oa = some g → w1.heap.size ≤ g := fun g hg => (HO.out.from hg).1
        have hk5 : Kp (fun k => k = rb) wr (w4.alloc (Obj.cells #[Value.int IntKind.i64 ↑r.num.fst] 3)) := HK4.out.alloc _
        have ho5 := HO.out.kp hk5 (fun g hg e => by have := hfar g hg; omega)
        have hA := HA.out
        refine wpList_app rfl _ _ 31 rfl w1.heap.size 3 info3 Tryz.underlying31 rfl (by decide) rfl ho5 rfl (news := ints [(r.num.1 : Int)]) rfl (fun j u hu => ?_) (one_ints _) (by unfold maxLen; omega) (by omega) (Nat.le_trans hsz hk5.size) ?_
        · have hu' : j = 0 ∧ u = .int .i64 (r.num.1 : Int) := by
            cases j with
            | zero => simp [ints] at hu; exact ⟨rfl, hu.symm⟩
            | succ j => simp [ints] at hu
          obtain ⟨rfl, rfl⟩ := hu'
          exact ⟨_, rfl, cell_of (heap_new w4 _) 0 rfl⟩
        intro a' cap' w6 ho6 hk6
        have hr6 : Rdr w6 rb G r.num.2 a4 c4 := (HR4.out.kp ((Kp.refl (fun _ => False) _).alloc _) (fun h => h) (fun _ _ h => h)).kp hk6 (fun e => by have := hfar rb e.symm; omega) (fun g hg e => by have := hfar g e.symm; have := (HG.out g hg).2; omega)
        have hk6' : Kp (fun k => w.heap.size ≤ k) w w6 := (HK3.out.trans (hk5.eq hrb)).trans (hk6.mono fun g _ e => by have := hfar g e.symm; have := HK1.out.size; omega)
        have hsz6 : w1.heap.size ≤ w6.heap.size := Nat.le_trans hsz (Nat.le_trans hk5.size hk6.size)
        have hAA : A.length + 1 = (A ++ [(r.num.1 : Int)]).length := by simp
        rw [show ints A ++ ints [(r.num.1 : Int)] = ints (A ++ [(r.num.1 : Int)]) by simp [ints], hAA] at ho6
        rw [hAA]
        have hs6 : srvRead b = (A ++ [(r.num.1 : Int)]) ++ (Rd.nums (mm - (k + 1)) r.num.2).1.map (fun n : Nat => (n : Int)) := by
          rw [HS3.out, show mm - k = (mm - (k + 1)) + 1 by omega, Rd.nums]
          simp
        have hA6 : (A ++ [(r.num.1 : Int)]).length = k + 1 := by rw [← hAA, hA]
        generalize A ++ [(r.num.1 : Int)] = A2 at ho6 hs6 hA6 ⊢
        have HO6 := Lib.hid ho6
        have HR6 := Lib.hid hr6
        have HK6 := Lib.hid hk6'
        have HS6 := Lib.hid hs6
        have HA6 := Lib.hid hA6
        have hbq : Byte r.num.2.b := Rd.num_byte hbr
        have hlq : r.num.2.b.length ≤ b.length := Nat.le_trans num_lt hlr
        clear ho6 hr6 hk6' hs6 hA6 hAA hA ho5 hk5 hk6 hfar
        go_wp2
        go_roundw
        case rel => exact ⟨k + 1, a', cap', A2, r.num.2, by go_num, by omega, rfl, HA6.out, HS6.out, hbq, hlq, HO6.out, ⟨a4, c4, HR6.out⟩, HK6.out, hsz6⟩
        case measure => simp [intOf]; omega
      · obtain rfl : k = mm := by omega
        have hsA : srvRead b = A := by rw [hs, Nat.sub_self, Rd.nums]; simp
        have hp := putServers_any ho.row co
        have HP := Lib.hid hp
        have HSA := Lib.hid hsA
        have hra : Row wr a (bytes b) := H.out.old hK
        have HRA := Lib.hid hra
        have hgs : getS b = if srv A = some b then some A else none := by unfold getS; rw [hsA]
        have HGS := Lib.hid hgs
        clear hs ho hr hK hA hp hsA hra hgs
        go_wp2_with (first | (go_at_call 8; refine Stop.mk ?_))
        unfold Stop
        refine (HP.out).mono ?_
        rintro e w7 ⟨hk7, hcase⟩
        have HK7 := Lib.hid hk7
        clear hk7
        rcases hcase with ⟨hno, rfl⟩ | ⟨bs, o7, co7, hys, rfl, ho7⟩
        · have hg9 : getS b = none := by rw [HGS.out, if_neg (by rw [hno]; simp)]
          have H9 := Lib.hid hg9
          clear hg9 hno
          go_wp2_with fail
          all_goals exact bodyPost_ret (v := .tuple #[.slice none 0 0, .int .i64 21]) (by simp [results, Tryz.results7, go_sem]) rfl ⟨(HK3.out.trans HK7.out.no).fin, .inl ⟨H9.out, rfl⟩⟩
        · have hby : Byte bs := srv_byte (by have := HA.out; omega) hys
          have HE := Lib.hid (equal_dec hby hB ho7.row (HRA.out.no HK7.out) co7 c)
          have HY := Lib.hid hys
          clear hys hby ho7
          go_wp2_with (first | (go_at_call 27; refine Stop.mk ?_))
          unfold Stop
          refine (HE.out).mono ?_
          rintro e w8 ⟨rfl, rfl⟩
          by_cases heq : bs = b
          · have hg9 : getS b = some A := by rw [HGS.out, if_pos (by rw [HY.out, heq])]
            have H9 := Lib.hid hg9
            have hde : decide (bs = b) = true := decide_eq_true heq
            rw [hde]
            clear hg9 hde heq
            go_wp2_with fail
            all_goals exact bodyPost_ret (v := .tuple #[.slice oa A.length co, .int .i64 0]) (by simp [results, Tryz.results7, go_sem]) rfl ⟨(HK3.out.trans HK7.out.no).fin, .inr ⟨_, _, _, H9.out, rfl, (HO.out.kp HK7.out (fun _ _ h => h)).low HK1.out.size⟩⟩
          · have hg9 : getS b = none := by rw [HGS.out, if_neg (by rw [HY.out]; intro e; exact heq (Option.some.inj e))]
            have H9 := Lib.hid hg9
            have hde : decide (bs = b) = false := decide_eq_false heq
            rw [hde]
            clear hg9 hde heq
            go_wp2_with fail
            all_goals exact bodyPost_ret (v := .tuple #[.slice none 0 0, .int .i64 21]) (by simp [results, Tryz.results7, go_sem]) rfl ⟨(HK3.out.trans HK7.out.no).fin, .inl ⟨H9.out, rfl⟩⟩
    )
end Go.Proofs.YtecohkoekifeiaaGreatDoor
namespace Go.Proofs.YtecohkoekifeiaaGreatDoor
open Go.ChangeShapes Go.WideShapes Go.ChangeAt Go.RowKit
set_option linter.unusedVariables false

/-- An entry that may be written. -/
def okE (x : En) : Bool :=
  if x.term < 1 ∨ 1099511627776 ≤ x.term ∨ x.index < 1 ∨ 1099511627776 ≤ x.index then false
  else if x.kind = 1 then decide (x.data.length = 0)
  else if x.kind = 2 then decide (x.data.length ≤ 4096)
  else if x.kind = 3 then (getS x.data).isSome
  else false
def enV (x : En) (a : Option Addr) (c : Nat) : Value := .agg #[.int .i64 x.term, .int .i64 x.index, .int .i64 x.kind, .slice a x.data.length c]

set_option maxRecDepth 100000 in
set_option maxHeartbeats 8000000 in
theorem right_any {w : World} {a : Option Addr} {x : En} (h : Row w a (bytes x.data)) (hB : Byte x.data) (hm : x.data.length ≤ 140737488351231) (c : Nat) :
    Calls Tryz.prog 23 #[enV x a c] w fun e w' => e = .returned (.bool (okE x)) ∧ Kp (fun _ => False) w w' := by
  unfold okE enV
  obtain ⟨t, i, k, d⟩ := x
  dsimp only at h hB hm ⊢
  have HG := Lib.hid (getServers_any (w := w.alloc (.cells #[.int .i64 t, .int .i64 i, .int .i64 k, .slice a d.length c] 24)) (h.no ((Kp.refl _ _).alloc _)) hB hm c)
  clear h hB hm
  by_cases hbad : t < 1 ∨ 1099511627776 ≤ t ∨ i < 1 ∨ 1099511627776 ≤ i
  · have h1 : (((decide ((t : Int) < 1) || decide ((1099511627776 : Int) ≤ (t : Int))) || decide ((i : Int) < 1)) || decide ((1099511627776 : Int) ≤ (i : Int))) = true := by simp; omega
    rw [if_pos hbad]
    clear hbad
    generalize (t : Int) = tz at h1 HG ⊢
    generalize (i : Int) = iz at h1 HG ⊢
    generalize (k : Int) = kz at HG ⊢
    clear HG
    go_enter Tryz.func23, Tryz.ntmps23
    go_wp2_with fail
    all_goals go_ret
    all_goals exact ⟨by simp, (Kp.refl _ _).alloc _⟩
  · rw [if_neg hbad]
    have g1 : ¬ ((t : Int) < 1) := by omega
    have g2 : ¬ ((1099511627776 : Int) ≤ (t : Int)) := by omega
    have g3 : ¬ ((i : Int) < 1) := by omega
    have g4 : ¬ ((1099511627776 : Int) ≤ (i : Int)) := by omega
    clear hbad
    generalize (t : Int) = tz at g1 g2 HG ⊢
    generalize (i : Int) = iz at g3 g4 HG ⊢
    by_cases k1 : k = 1
    · subst k1
      clear HG
      rw [if_pos rfl]
      generalize d.length = n
      go_enter Tryz.func23, Tryz.ntmps23
      go_wp2_with fail
      all_goals go_ret
      all_goals exact ⟨by by_cases hn : n = 0 <;> simp [hn], (Kp.refl _ _).alloc _⟩
    rw [if_neg k1]
    by_cases k2 : k = 2
    · subst k2
      clear HG k1
      rw [if_pos rfl]
      generalize d.length = n
      have hd : decide (n ≤ 4096) = decide ((n : Int) ≤ 4096) := by apply decide_eq_decide.2; omega
      rw [hd]
      clear hd
      generalize hnz : (n : Int) = nz
      go_enter Tryz.func23, Tryz.ntmps23
      go_wp2_with fail
      all_goals go_ret
      all_goals exact ⟨by simp, (Kp.refl _ _).alloc _⟩
    rw [if_neg k2]
    by_cases k3 : k = 3
    · subst k3
      clear k1 k2
      rw [if_pos rfl]
      have hg2 : Calls Tryz.prog 7 #[.slice a d.length c] (w.alloc (.cells #[.int .i64 tz, .int .i64 iz, .int .i64 3, .slice a d.length c] 24)) (GetSAt d (w.alloc (.cells #[.int .i64 tz, .int .i64 iz, .int .i64 3, .slice a d.length c] 24))) := HG.out
      have HG2 := Lib.hid hg2
      clear HG hg2
      generalize d.length = n at HG2 ⊢
      go_enter Tryz.func23, Tryz.ntmps23
      go_wp2_with (go_at_call 7; refine Stop.mk ?_)
      unfold Stop
      refine (HG2.out).mono ?_
      rintro e w1 ⟨hk1, hc⟩
      have HK := Lib.hid hk1
      clear hk1
      rcases hc with ⟨hg, rfl⟩ | ⟨xs, o, co, hg, rfl, ho⟩
      · have HV := Lib.hid hg
        clear hg HG2
        go_wp2_with fail
        all_goals go_ret
        all_goals exact ⟨by rw [HV.out]; simp, ((Kp.refl _ _).alloc _).trans HK.out⟩
      · have HV := Lib.hid hg
        clear hg HG2 ho
        go_wp2_with fail
        all_goals go_ret
        all_goals exact ⟨by rw [HV.out]; simp, ((Kp.refl _ _).alloc _).trans HK.out⟩
    rw [if_neg k3]
    clear HG
    have z1 : ¬ ((k : Int) = 1) := by omega
    have z2 : ¬ ((k : Int) = 2) := by omega
    have z3 : ¬ ((k : Int) = 3) := by omega
    clear k1 k2 k3
    generalize (k : Int) = kz at z1 z2 z3 ⊢
    generalize d.length = n
    go_enter Tryz.func23, Tryz.ntmps23
    go_wp2_with fail
    all_goals go_ret
    all_goals exact ⟨by simp, (Kp.refl _ _).alloc _⟩
end Go.Proofs.YtecohkoekifeiaaGreatDoor
