/-
  snaps.Put and snaps.Get, each walked once.
-/
import Derived.Test.YtecohkoekifeiaaGreatDoorXf
set_option linter.all false
namespace Go.Proofs.YtecohkoekifeiaaGreatDoor
open Go.ChangeShapes Go.WideShapes Go.ChangeAt Go.RowKit
set_option linter.unusedVariables false
set_option linter.unusedSimpArgs false

theorem srvGo_len : ∀ {xs : List Int} {la : Int} {bs : List Int}, srvGo la xs = some bs → bs.length ≤ 9 * xs.length
  | [], la, bs, h => by simp only [srvGo, Option.some.injEq] at h; rw [← h]; simp
  | x :: r, la, bs, h => by
    unfold srvGo at h
    split at h
    · cases h
    · rename_i hx
      cases hr : srvGo x r with
      | none => rw [hr] at h; cases h
      | some b2 =>
        rw [hr] at h
        simp only [Option.map_some, Option.some.injEq] at h
        have h1 := srvGo_len hr
        have h2 := enc_len (n := x.toNat) (by omega)
        rw [← h, List.length_append, List.length_cons]
        omega
theorem srv_len {xs bs : List Int} (h : srv xs = some bs) : bs.length ≤ 80 ∧ xs.length ≤ 7 := by
  unfold srv at h
  split at h
  · cases h
  · rename_i hx
    cases hr : srvGo (-1) xs with
    | none => rw [hr] at h; cases h
    | some b2 =>
      rw [hr] at h
      simp only [Option.map_some, Option.some.injEq] at h
      have h1 := srvGo_len hr
      have h2 := enc_len (n := xs.length) (by omega)
      rw [← h, List.length_append]
      omega

/-- A snapshot, as it is written. -/
def snP (i t : Nat) (bs d : List Int) : List Int := enc i ++ (enc t ++ (encB bs ++ encB d))

theorem encB_len {b : List Int} (h : b.length < 9223372036854775808) : (encB b).length ≤ 9 + b.length := by
  have := enc_len (n := b.length) h
  rw [encB, List.length_append]
  omega
theorem encB_byte {b : List Int} (hl : b.length < 9223372036854775808) (h : Byte b) : Byte (encB b) := by
  intro x hx
  rw [encB, List.mem_append] at hx
  rcases hx with hx | hx
  · exact enc_byte hl x hx
  · exact h x hx
theorem byte_app {a b : List Int} (h : Byte a) (k : Byte b) : Byte (a ++ b) := by
  intro x hx
  rw [List.mem_append] at hx
  rcases hx with hx | hx
  · exact h x hx
  · exact k x hx

set_option maxRecDepth 100000 in
set_option maxHeartbeats 800000 in
theorem snPut_good {w : World} {i t : Nat} {xs bs d : List Int} {o o' : Option Addr} (co co' : Nat) (hs : srv xs = some bs) (hi1 : 1 ≤ i) (hi2 : i < 1099511627776) (ht1 : 1 ≤ t) (ht2 : t < 1099511627776) (hd : d.length ≤ 60000)
    (hr : Row w o (ints xs)) (hr' : Row w o' (bytes d)) (hB : Byte d) :
    Calls Tryz.prog 14 #[.agg #[.int .i64 i, .int .i64 t, .slice o xs.length co, .slice o' d.length co']] w fun e w' => ∃ q cq, e = .returned (.tuple #[.slice q (frm 5 (snP i t bs d)).length cq, .int .i64 0]) ∧ Owns w' w.heap.size 5 1 q (frm 5 (snP i t bs d)).length cq (bytes (frm 5 (snP i t bs d))) ∧ Kp (fun _ => False) w w' := by
  have hl := srv_len hs
  have hsb := srv_byte (by omega) hs
  have HS := Lib.hid (putServers_any (w := w.alloc (.cells #[.int .i64 i, .int .i64 t, .slice o xs.length co, .slice o' d.length co'] 47)) (hr.no ((Kp.refl _ _).alloc _)) co)
  have HN1 := Lib.hid (fun u => putNumber_good u i (by omega))
  have HN2 := Lib.hid (fun u => putNumber_good u t (by omega))
  have HL := Lib.hid (⟨hl.1, hd, enc_len (n := i) (by omega), enc_len (n := t) (by omega), encB_len (b := bs) (by omega), encB_len (b := d) (by omega)⟩ : bs.length ≤ 80 ∧ d.length ≤ 60000 ∧ (enc i).length ≤ 9 ∧ (enc t).length ≤ 9 ∧ (encB bs).length ≤ 9 + bs.length ∧ (encB d).length ≤ 9 + d.length)
  have HBY := Lib.hid (byte_app (enc_byte (n := i) (by omega)) (byte_app (enc_byte (n := t) (by omega)) (byte_app (encB_byte (by omega) hsb) (encB_byte (by omega) hB))))
  have HR' := Lib.hid hr'
  have HSR := Lib.hid hs
  have g1 : ¬ ((i : Int) < 1) := by omega
  have g2 : ¬ ((1099511627776 : Int) ≤ (i : Int)) := by omega
  have g3 : ¬ ((t : Int) < 1) := by omega
  have g4 : ¬ ((1099511627776 : Int) ≤ (t : Int)) := by omega
  have g5 : ¬ ((60000 : Int) < (d.length : Int)) := by omega
  obtain ⟨R, hR⟩ : ∃ R, R = snP i t bs d := ⟨_, rfl⟩
  rw [← hR]
  have HP := Lib.hid (show R = enc i ++ (enc t ++ (encB bs ++ encB d)) from hR)
  clear hR hl hsb hr hr' hs hi1 hi2 ht1 ht2 hd hB
  generalize (i : Int) = iz at g1 g2 HN1 HS ⊢
  generalize (t : Int) = tz at g3 g4 HN2 HS ⊢
  generalize hdl : d.length = dl at g5 HS HL ⊢
  have HDL := Lib.hid hdl
  clear hdl
  go_enter Tryz.func14, Tryz.ntmps14
  go_wp2_with (go_at_call 8; refine Stop.mk ?_)
  unfold Stop
  refine (HS.out).mono ?_
  rintro e w1 ⟨hk1, hx⟩
  rw [HSR.out] at hx
  obtain ⟨b', o1, c1, hb', rfl, ho1⟩ : ∃ b' o1 c1, some bs = some b' ∧ e = .returned (.tuple #[.slice o1 b'.length c1, .int .i64 0]) ∧ Owns w1 (w.alloc (.cells #[.int .i64 iz, .int .i64 tz, .slice o xs.length co, .slice o' dl co'] 47)).heap.size 5 1 o1 b'.length c1 (bytes b') := by
    rcases hx with ⟨h, _⟩ | h
    · cases h
    · exact h
  cases hb'
  have b1 := hk1.heap (heap_new w _) (fun h => h)
  have d0 := cell_of b1 0 rfl
  have d1 := cell_of b1 1 rfl
  have d2 := cell_of b1 2 rfl
  have d3 := cell_of b1 3 rfl
  have HB1 := Lib.hid b1
  have HO1 := Lib.hid ho1
  have HK1 := Lib.hid (((Kp.refl (fun _ => False) w).alloc _).trans hk1)
  have HRD := Lib.hid (((HR'.out.no ((Kp.refl _ _).alloc _)).no hk1))
  clear b1 ho1 hk1 hx HS
  go_wp2_with (go_at_call 33; refine Stop.mk ?_)
  unfold Stop
  refine (HN1.out _).mono ?_
  rintro e w2 ⟨o2, c2, rfl, ho2, hk2⟩
  clear d0 d1 d2 d3
  have b2 := hk2.heap HB1.out (fun h => h)
  have d0 := cell_of b2 0 rfl
  have d1 := cell_of b2 1 rfl
  have d2 := cell_of b2 2 rfl
  have d3 := cell_of b2 3 rfl
  have HB2 := Lib.hid b2
  have HO2 := Lib.hid ho2.row
  have HK2 := Lib.hid (HK1.out.trans hk2)
  have HO12 := Lib.hid (HO1.out.row.no hk2)
  have HRD2 := Lib.hid (HRD.out.no hk2)
  clear b2 hk2 ho2
  generalize hA : enc i = A at HO2 HL HP HBY ⊢
  go_wp2_with (go_at_call 33; refine Stop.mk ?_)
  unfold Stop
  refine (HN2.out _).mono ?_
  rintro e w3 ⟨o3, c3, rfl, ho3, hk3⟩
  clear d0 d1 d2 d3
  have b3 := hk3.heap HB2.out (fun h => h)
  have d0 := cell_of b3 0 rfl
  have d1 := cell_of b3 1 rfl
  have d2 := cell_of b3 2 rfl
  have d3 := cell_of b3 3 rfl
  have HB3 := Lib.hid b3
  have HO3 := Lib.hid ho3.row
  have HK3 := Lib.hid (HK2.out.trans hk3)
  have HO13 := Lib.hid (HO12.out.no hk3)
  have HO23 := Lib.hid (HO2.out.no hk3)
  have HRD3 := Lib.hid (HRD2.out.no hk3)
  clear b3 hk3 ho3
  generalize hC : enc t = C at HO3 HL HP HBY ⊢
  have HB4 := Lib.hid (putBytes_good HO13.out (by have := HL.out; omega) c1)
  go_wp2_with (go_at_call 24; refine Stop.mk ?_)
  unfold Stop
  refine (HB4.out).mono ?_
  rintro e w4 ⟨o4, c4, rfl, ho4, hk4⟩
  clear d0 d1 d2 d3
  have b4 := hk4.heap HB3.out (fun h => h)
  have d0 := cell_of b4 0 rfl
  have d1 := cell_of b4 1 rfl
  have d2 := cell_of b4 2 rfl
  have d3 := cell_of b4 3 rfl
  have HBX4 := Lib.hid b4
  have HO4 := Lib.hid ho4.row
  have HK4 := Lib.hid (HK3.out.trans hk4)
  have HO24 := Lib.hid (HO23.out.no hk4)
  have HO34 := Lib.hid (HO3.out.no hk4)
  have HRD4 := Lib.hid (HRD3.out.no hk4)
  clear b4 hk4 ho4 HB4
  have HB5 := Lib.hid (putBytes_good HRD4.out (by have := HL.out; have := HDL.out; omega) co')
  rw [HDL.out] at HB5
  generalize hE : encB bs = E at HO4 HL HP HBY ⊢
  go_wp2_with (go_at_call 24; refine Stop.mk ?_)
  unfold Stop
  refine (HB5.out).mono ?_
  rintro e w5 ⟨o5, c5, rfl, ho5, hk5⟩
  have HO25 := Lib.hid (HO24.out.no hk5)
  have HO35 := Lib.hid (HO34.out.no hk5)
  have HO45 := Lib.hid (HO4.out.no hk5)
  have HK5 := Lib.hid (HK4.out.trans hk5)
  generalize hF : encB d = G at ho5 HL HP HBY ⊢
  have hp := Pts.new (w := w5) (l := [⟨o2, A, c2⟩, ⟨o3, C, c3⟩, ⟨o4, E, c4⟩, ⟨o5, G, c5⟩]) (cs := #[Value.slice o2 A.length c2, Value.slice o3 C.length c3, Value.slice o4 E.length c4, Value.slice o5 G.length c5]) rfl (by
    intro r hr
    simp only [List.mem_cons, List.not_mem_nil, or_false] at hr
    rcases hr with rfl | rfl | rfl | rfl
    · exact HO25.out
    · exact HO35.out
    · exact HO45.out
    · exact ho5.row)
  have hfl : flat [⟨o2, A, c2⟩, ⟨o3, C, c3⟩, ⟨o4, E, c4⟩, ⟨o5, G, c5⟩] = A ++ (C ++ (E ++ G)) := by simp [flat]
  have hlR : (A ++ (C ++ (E ++ G))).length ≤ 65000 := by simp only [List.length_append]; have := HL.out; omega
  have hj := join_any hp (by rw [hfl]; omega) (by simp) 4
  rw [hfl, ← HP.out] at hj
  rw [← HP.out] at hlR
  have HJ := Lib.hid hj
  have HLR := Lib.hid hlR
  have HRB := Lib.hid (show Byte R by rw [HP.out]; exact HBY.out)
  clear d0 d1 d2 d3 hk5 ho5 hp hfl hj hlR
  go_wp2_with (first | (go_at_call 25; refine Stop.mk ?_))
  unfold Stop
  refine (HJ.out).mono ?_
  rintro e w6 ⟨o6, c6, rfl, ho6, hk6⟩
  have HFP := Lib.hid (fput_any ho6.row HRB.out 5 (by omega) (by have := HLR.out; omega) c6)
  have HK6 := Lib.hid ((HK5.out.alloc (.cells #[Value.slice o2 A.length c2, Value.slice o3 C.length c3, Value.slice o4 E.length c4, Value.slice o5 G.length c5] 22)).trans hk6)
  clear hk6 ho6
  go_wp2_with (first | (go_at_call 36; refine Stop.mk ?_))
  unfold Stop
  refine (HFP.out).mono ?_
  rintro e w7 ⟨o7, c7, rfl, ho7, hk7⟩
  have HO7 := Lib.hid (ho7.low (B' := w.heap.size) HK6.out.size)
  have HK7 := Lib.hid (HK6.out.trans hk7)
  clear ho7 hk7
  generalize hL : (frm 5 R).length = L at HO7 ⊢
  go_wp2
  subst hL
  exact bodyPost_ret (v := .tuple #[.slice o7 (frm 5 R).length c7, .int .i64 0]) (by simp [results, Tryz.results14, go_sem]) rfl ⟨o7, c7, rfl, HO7.out, HK7.out⟩
set_option maxRecDepth 100000 in
set_option maxHeartbeats 1600000 in
theorem snPut_bad {w : World} {i t n : Nat} {xs : List Int} {o o' : Option Addr} (co co' : Nat) (hr : Row w o (ints xs)) (hbad : srv xs = none ∨ i < 1 ∨ 1099511627776 ≤ i ∨ t < 1 ∨ 1099511627776 ≤ t ∨ 60000 < n) :
    Calls Tryz.prog 14 #[.agg #[.int .i64 i, .int .i64 t, .slice o xs.length co, .slice o' n co']] w fun e w' => e = .returned (.tuple #[.slice none 0 0, .int .i64 1]) ∧ Kp (fun _ => False) w w' := by
  have HS := Lib.hid (putServers_any (w := w.alloc (.cells #[.int .i64 i, .int .i64 t, .slice o xs.length co, .slice o' n co'] 47)) (hr.no ((Kp.refl _ _).alloc _)) co)
  have hb : srv xs = none ∨ ((i : Int) < 1 ∨ 1099511627776 ≤ (i : Int) ∨ (t : Int) < 1 ∨ 1099511627776 ≤ (t : Int) ∨ (60000 : Int) < (n : Int)) := by
    rcases hbad with h | h
    · exact .inl h
    · exact .inr (by omega)
  have HBD := Lib.hid hb
  clear hb hbad hr
  generalize (i : Int) = iz at HBD HS ⊢
  generalize (t : Int) = tz at HBD HS ⊢
  go_enter Tryz.func14, Tryz.ntmps14
  go_wp2_with (go_at_call 8; refine Stop.mk ?_)
  unfold Stop
  refine (HS.out).mono ?_
  rintro e w1 ⟨hk1, hx⟩
  have b1 := hk1.heap (heap_new w _) (fun h => h)
  have d0 := cell_of b1 0 rfl
  have d1 := cell_of b1 1 rfl
  have d2 := cell_of b1 2 rfl
  have d3 := cell_of b1 3 rfl
  have HK1 := Lib.hid (((Kp.refl (fun _ => False) w).alloc _).trans hk1)
  clear b1 hk1 HS
  rcases hx with ⟨_, rfl⟩ | ⟨b', o1, c1, hb', rfl, _⟩
  · clear HBD
    go_wp2_with fail
    exact bodyPost_ret (v := .tuple #[.slice none 0 0, .int .i64 1]) (by simp [results, Tryz.results14, go_sem]) rfl ⟨rfl, HK1.out⟩
  · have hn : ¬ (srv xs = none) := by rw [hb']; simp
    have HB2 := Lib.hid (HBD.out.resolve_left hn)
    clear HBD hn hb'
    by_cases g1 : iz < 1
    · clear HB2
      go_wp2_with fail
      exact bodyPost_ret (v := .tuple #[.slice none 0 0, .int .i64 1]) (by simp [results, Tryz.results14, go_sem]) rfl ⟨rfl, HK1.out⟩
    · by_cases g2 : (1099511627776 : Int) ≤ iz
      · clear HB2
        go_wp2_with fail
        exact bodyPost_ret (v := .tuple #[.slice none 0 0, .int .i64 1]) (by simp [results, Tryz.results14, go_sem]) rfl ⟨rfl, HK1.out⟩
      · by_cases g3 : tz < 1
        · clear HB2
          go_wp2_with fail
          exact bodyPost_ret (v := .tuple #[.slice none 0 0, .int .i64 1]) (by simp [results, Tryz.results14, go_sem]) rfl ⟨rfl, HK1.out⟩
        · by_cases g4 : (1099511627776 : Int) ≤ tz
          · clear HB2
            go_wp2_with fail
            exact bodyPost_ret (v := .tuple #[.slice none 0 0, .int .i64 1]) (by simp [results, Tryz.results14, go_sem]) rfl ⟨rfl, HK1.out⟩
          · have g5 : (60000 : Int) < (n : Int) := by have := HB2.out; omega
            clear HB2
            go_wp2_with fail
            exact bodyPost_ret (v := .tuple #[.slice none 0 0, .int .i64 1]) (by simp [results, Tryz.results14, go_sem]) rfl ⟨rfl, HK1.out⟩
end Go.Proofs.YtecohkoekifeiaaGreatDoor
namespace Go.Proofs.YtecohkoekifeiaaGreatDoor
open Go.ChangeShapes Go.WideShapes Go.ChangeAt Go.RowKit
set_option linter.unusedVariables false
set_option linter.unusedSimpArgs false

/-- What snaps.Get tells. -/
def GetNAt (b : List Int) (w : World) (e : Ending) (w' : World) : Prop :=
  Kp (fun _ => False) w w' ∧ (e = .returned (.tuple #[.agg #[.int .i64 0, .int .i64 0, .slice none 0 0, .slice none 0 0], .int .i64 21]) ∨
    ∃ (i t : Nat) (xs bs d : List Int) (o : Option Addr) (co : Nat) (o' : Option Addr) (co' : Nat), b = frm 5 (snP i t bs d) ∧ srv xs = some bs ∧ 1 ≤ i ∧ i < 1099511627776 ∧ 1 ≤ t ∧ t < 1099511627776 ∧ d.length ≤ 60000 ∧ Byte d ∧
      Row w' o (ints xs) ∧ Row w' o' (bytes d) ∧ e = .returned (.tuple #[.agg #[.int .i64 i, .int .i64 t, .slice o xs.length co, .slice o' d.length co'], .int .i64 0]))

theorem set4 {w : World} {b : Nat} {x y z u p q r s : Value} {ty : TypeId} (h : w.heap[b]? = some (.cells #[x, y, z, u] ty (0, 0))) :
    ((((w.setCell ⟨b, 0, none⟩ p).setCell ⟨b, 1, none⟩ q).setCell ⟨b, 2, none⟩ r).setCell ⟨b, 3, none⟩ s).heap[b]? = some (.cells #[p, q, r, s] ty (0, 0)) := by
  have := heap_set (heap_set (heap_set (heap_set h 0 p) 1 q) 2 r) 3 s
  simpa using this
theorem kp4 {w u : World} {p q r s : Value} (h : Kp (fun _ => False) w u) {b : Nat} (hb : w.heap.size ≤ b) : Kp (fun _ => False) w ((((u.setCell ⟨b, 0, none⟩ p).setCell ⟨b, 1, none⟩ q).setCell ⟨b, 2, none⟩ r).setCell ⟨b, 3, none⟩ s) :=
  (((h.setCell (p := ⟨b, 0, none⟩) (.inr hb) p).setCell (p := ⟨b, 1, none⟩) (.inr hb) q).setCell (p := ⟨b, 2, none⟩) (.inr hb) r).setCell (p := ⟨b, 3, none⟩) (.inr hb) s
theorem kpb4 {u : World} {p q r s : Value} {b : Nat} : Kp (fun k => k = b) u ((((u.setCell ⟨b, 0, none⟩ p).setCell ⟨b, 1, none⟩ q).setCell ⟨b, 2, none⟩ r).setCell ⟨b, 3, none⟩ s) :=
  ((((Kp.refl (fun k => k = b) u).setCell (p := ⟨b, 0, none⟩) (.inl rfl) p).setCell (p := ⟨b, 1, none⟩) (.inl rfl) q).setCell (p := ⟨b, 2, none⟩) (.inl rfl) r).setCell (p := ⟨b, 3, none⟩) (.inl rfl) s

set_option maxRecDepth 100000 in
set_option maxHeartbeats 1600000 in
theorem snGet_any {w : World} {a : Option Addr} {b : List Int} (h : Row w a (bytes b)) (hB : Byte b) (hm : b.length ≤ 16777216) (c : Nat) (hcap : b.length ≤ c) :
    Calls Tryz.prog 13 #[.slice a b.length c] w (GetNAt b w) := by
  have HS := Lib.hid (scan_any (w := w.alloc (.cells #[.int .i64 0, .int .i64 0, .slice none 0 0, .slice none 0 0] 47)) (h.no ((Kp.refl _ _).alloc _)) hB hm c hcap (by simp))
  clear h
  go_enter Tryz.func13, Tryz.ntmps13
  go_wp2_with (go_at_call 35; refine Stop.mk ?_)
  unfold Stop
  refine (HS.out).mono ?_
  rintro e w1 ⟨l, n, cl, en, rfl, hk1, hx⟩
  have hT1 := hk1.heap (heap_new w (.cells #[.int .i64 0, .int .i64 0, .slice none 0 0, .slice none 0 0] 47)) (fun h => h)
  have hw1 : w.heap.size + 1 ≤ w1.heap.size := by have := hk1.size; simpa using this
  have hKB : Kp (fun _ => False) w w1 := ((Kp.refl _ _).alloc _).trans hk1
  have d0 := cell_of hT1 0 rfl
  have d1 := cell_of hT1 1 rfl
  have d2 := cell_of hT1 2 rfl
  have d3 := cell_of hT1 3 rfl
  have f0 := free_of hT1 0
  have f1 := free_of hT1 1
  have f2 := free_of hT1 2
  have f3 := free_of hT1 3
  have HT1 := Lib.hid hT1
  have HKB := Lib.hid hKB
  have HX := Lib.hid hx
  clear hk1 hT1 hKB hx HS
  by_cases he : en = b.length
  · by_cases hn : n = 1
    · subst hn
      subst he
      obtain ⟨x, g, rfl, hc0, hc1, hrow, hb, hBd, hk, hl⟩ := HX.out rfl rfl
      obtain ⟨at_, k, d, ad, cap⟩ := x
      dsimp only at hc0 hc1 hrow hb hBd hk hl
      have HN := Lib.hid (new_in hrow (by omega) cap)
      have HB := Lib.hid hb
      have HBD := Lib.hid hBd
      clear hrow hb hBd HX
      by_cases h4 : k = 5
      · subst h4
        generalize hdl : d.length = dl at hc1 HN hl
        have HDL := Lib.hid hdl
        clear hdl
        go_wp2_with (go_at_call 19; refine Stop.mk ?_)
        unfold Stop
        refine (HN.out).mono ?_
        rintro e w2 ⟨rb, G, o1, co1, rfl, hr1, hrb, hG, hk2⟩
        have HU := Lib.hid (num_reads hr1 HBD.out (by rw [HDL.out]; omega))
        have HR1 := Lib.hid hr1
        have HK2 := Lib.hid hk2
        have HG := Lib.hid hG
        have hrb2 := lt_of_block hr1.blk
        clear hr1 hk2 hG HN d0 d1 d2 d3 f0 f1 f2 f3 hc0 hc1
        go_wp2_with (go_at_call 20; refine Stop.mk ?_)
        unfold Stop
        refine (HU.out).mono ?_
        rintro e w3 ⟨rfl, a3, c3, hr3, hk3⟩
        have hb3 := Rd.num_byte (r := ⟨0, d⟩) HBD.out
        have hl3 := num_lt (r := ⟨0, d⟩)
        have ht3 := num_48 (r := ⟨0, d⟩) HBD.out
        have ho3 := Rd.num_ok (r := ⟨0, d⟩) HBD.out
        generalize (⟨0, d⟩ : Rd).num = q1 at hr3 hb3 hl3 ht3 ho3 ⊢
        obtain ⟨n1, q1⟩ := q1
        dsimp only at hr3 hb3 hl3 ht3 ho3 ⊢
        rw [HDL.out] at hl3
        have HU2 := Lib.hid (num_reads hr3 hb3 (by omega))
        have HR3 := Lib.hid hr3
        have HK3 := Lib.hid hk3
        have HO3 := Lib.hid ho3
        clear hr3 hk3 ho3 HU
        go_wp2_with (go_at_call 20; refine Stop.mk ?_)
        unfold Stop
        refine (HU2.out).mono ?_
        rintro e w4 ⟨rfl, a4, c4, hr4, hk4⟩
        have hb4 := Rd.num_byte (r := q1) hb3
        have hl4 : q1.num.2.b.length ≤ dl := Nat.le_trans num_lt hl3
        have ht4 := num_48 (r := q1) hb3
        have ho4 := Rd.num_ok (r := q1) hb3
        have he4 := @Rd.num_e q1
        generalize q1.num = q2 at hr4 hb4 hl4 ht4 ho4 he4 ⊢
        obtain ⟨n2, q2⟩ := q2
        dsimp only at hr4 hb4 hl4 ht4 ho4 he4 ⊢
        have hk24 : Kp (fun k => k = rb) w2 w4 := HK3.out.trans hk4
        have hV := heap_new w4 (.cells #[.int .i64 n1, .int .i64 n2, .slice none 0 0, .slice none 0 0] 47)
        have hsz4 : w2.heap.size ≤ w4.heap.size := hk24.size
        have hr5 := hr4.kp ((Kp.refl (fun _ => False) _).alloc (.cells #[.int .i64 n1, .int .i64 n2, .slice none 0 0, .slice none 0 0] 47)) (fun h => h) (fun _ _ h => h)
        have HU5 := Lib.hid (bytes_reads hr5 hb4 (by omega))
        have HK24 := Lib.hid (hk24.alloc (.cells #[.int .i64 n1, .int .i64 n2, .slice none 0 0, .slice none 0 0] 47))
        have HO4 := Lib.hid ho4
        have HE4 := Lib.hid he4
        have HV := Lib.hid hV
        clear hr4 hk4 ho4 he4 hV HU2 hk24 hr5
        go_wp2_with (go_at_call 21; refine Stop.mk ?_)
        -- GO ON
        unfold Stop
        generalize hVV : w4.heap.size = V at HV hsz4 ⊢
        refine (HU5.out).mono ?_
        rintro e w6 ⟨o6, c6, rfl, ho6, a6, c6', hr6, hk6⟩
        have hb6 := Rd.bytes_byte hb4
        have hl6 := @bytes_lt q2
        have ho6' := Rd.bytes_ok hb4
        have he6 := @Rd.bytes_e q2
        generalize q2.bytes = q3 at hr6 ho6 hb6 hl6 ho6' he6 ⊢
        obtain ⟨B1, q3⟩ := q3
        dsimp only at hr6 ho6 hb6 hl6 ho6' he6 ⊢
        have HGS := Lib.hid (getServers_any ho6.row hb6.2 (by omega) c6)
        have HR6 := Lib.hid hr6
        have HK6 := Lib.hid (HK24.out.trans hk6)
        have HO6 := Lib.hid ho6'
        have HE6 := Lib.hid he6
        have hV6 := hk6.heap HV.out (by omega)
        have HV6 := Lib.hid hV6
        have hsz6 : V < w6.heap.size := lt_of_block hV6
        clear hr6 hk6 ho6 ho6' he6 hV6 HV HU5 HK24
        go_wp2_with (go_at_call 7; refine Stop.mk ?_)
        unfold Stop
        refine (HGS.out).mono ?_
        rintro e w7 ⟨hk7, hx7⟩
        obtain ⟨xs, o7, c7, er, hsrv, rfl, hrow7, hblk7⟩ : ∃ (xs : List Int) (o7 : Option Addr) (c7 : Nat) (er : Int), (srv xs = none ∨ srv xs = some B1) ∧ e = .returned (.tuple #[.slice o7 xs.length c7, .int .i64 er]) ∧ Row w7 o7 (ints xs) ∧ ∀ g, blockOf o7 = some g → w6.heap.size ≤ g := by
          rcases hx7 with ⟨_, rfl⟩ | ⟨xs, o7, c7, hg, rfl, ho7⟩
          · exact ⟨[], none, 0, 21, .inl rfl, rfl, Row.nil _ _, fun g hg => by cases hg⟩
          · exact ⟨xs, o7, c7, 0, .inr (getS_back hg), rfl, ho7.row, fun g hg => (ho7.from hg).1⟩
        have hV7 := hk7.heap HV6.out (fun h => h)
        have p2 := cell_of hV7 2 (v := .slice none 0 0) rfl
        have q2' := free_of hV7 2
        have HV7 := Lib.hid hV7
        have k78 : Kp (fun k => k = V) w7 (w7.setCell ⟨V, 2, none⟩ (.slice o7 xs.length c7)) := (Kp.refl (fun k => k = V) w7).setCell (p := ⟨V, 2, none⟩) (.inl rfl) _
        have hV8 : (w7.setCell ⟨V, 2, none⟩ (.slice o7 xs.length c7)).heap[V]? = some (.cells #[.int .i64 n1, .int .i64 n2, .slice o7 xs.length c7, .slice none 0 0] 47 (0, 0)) := heap_set hV7 2 _
        have hr8 : Rdr (w7.setCell ⟨V, 2, none⟩ (.slice o7 xs.length c7)) rb G q3 a6 c6' := (HR6.out.kp hk7 (fun h => h) (fun _ _ h => h)).kp k78 (by show ¬ rb = V; omega) (fun g hg => by have := (HG.out g hg).2; show ¬ g = V; omega)
        have HROW8 := Lib.hid (hrow7.kp k78 (fun g hg => by have := hblk7 g hg; show ¬ g = V; omega))
        have HBLK := Lib.hid hblk7
        have HSRV := Lib.hid hsrv
        have HK8 := Lib.hid (((HK6.out.mono (S' := fun k => k = rb ∨ k = V) (fun _ _ h => .inl h)).andThen hk7 (fun _ _ h => h.elim)).andThen k78 (fun _ _ h => .inr h))
        have HU8 := Lib.hid (bytes_reads hr8 hb6.1 (by omega))
        have HV8 := Lib.hid hV8
        have hsz8 : w6.heap.size ≤ (w7.setCell ⟨V, 2, none⟩ (.slice o7 xs.length c7)).heap.size := Nat.le_trans hk7.size k78.size
        clear hk7 hx7 hrow7 hblk7 hsrv hV7 hV8 hr8 k78 HR6 HK6 HV6 HGS
        generalize hxl : xs.length = xl at p2 HU8 HV8 HROW8 HK8 hsz8 ⊢
        have HXL := Lib.hid hxl
        clear hxl
        go_wp2_with (go_at_call 21; refine Stop.mk ?_)
        unfold Stop
        generalize (w7.setCell ⟨V, 2, none⟩ (.slice o7 xl c7)) = w8 at HU8 HV8 HROW8 HK8 hsz8 ⊢
        refine (HU8.out).mono ?_
        rintro e w9 ⟨o9, c9, rfl, ho9, a9, c9', hr9, hk9⟩
        have hb9 := Rd.bytes_byte hb6.1
        have hl9 := @bytes_lt q3
        have ho9' := Rd.bytes_ok hb6.1
        have he9 := @Rd.bytes_e q3
        generalize q3.bytes = q4 at hr9 ho9 hb9 hl9 ho9' he9 ⊢
        obtain ⟨D, q4⟩ := q4
        dsimp only at hr9 ho9 hb9 hl9 ho9' he9 ⊢
        have hV9 := hk9.heap HV8.out (by omega)
        have p3 := cell_of hV9 3 (v := .slice none 0 0) rfl
        have q3' := free_of hV9 3
        generalize hDl : D.length = Dl at ho9 hl9 ⊢
        have HDl := Lib.hid hDl
        clear hDl
        have k9 : Kp (fun k => k = V) w9 (w9.setCell ⟨V, 3, none⟩ (.slice o9 Dl c9)) := (Kp.refl (fun k => k = V) w9).setCell (p := ⟨V, 3, none⟩) (.inl rfl) _
        have hV10 : (w9.setCell ⟨V, 3, none⟩ (.slice o9 Dl c9)).heap[V]? = some (.cells #[.int .i64 n1, .int .i64 n2, .slice o7 xl c7, .slice o9 Dl c9] 47 (0, 0)) := heap_set hV9 3 _
        have HR10 := Lib.hid (hr9.kp k9 (by show ¬ rb = V; omega) (fun g hg => by have := (HG.out g hg).2; show ¬ g = V; omega))
        have HX10 := Lib.hid ((HROW8.out.kp hk9 (fun g hg => by have := HBLK.out g hg; show ¬ g = rb; omega)).kp k9 (fun g hg => by have := HBLK.out g hg; show ¬ g = V; omega))
        have HD10 := Lib.hid (ho9.row.kp k9 (fun g hg => by have := (ho9.from hg).1; show ¬ g = V; omega))
        have HDB := Lib.hid (fun g (hg : blockOf o9 = some g) => (ho9.from hg).1)
        have HK10 := Lib.hid ((HK8.out.andThen hk9 (fun _ _ h => .inl h)).andThen k9 (fun _ _ h => .inr h))
        have HO9 := Lib.hid ho9'
        have HE9 := Lib.hid he9
        have HV10 := Lib.hid hV10
        have HB9 := Lib.hid hb9
        have r0 := cell_of hV10 0 (v := .int .i64 n1) rfl
        have r1 := cell_of hV10 1 (v := .int .i64 n2) rfl
        have r2 := cell_of hV10 2 (v := .slice o7 xl c7) rfl
        have r3 := cell_of hV10 3 (v := .slice o9 Dl c9) rfl
        clear hk9 ho9 ho9' he9 hr9 hV9 hV10 k9 HU8 HV8 HROW8 HK8
        go_wp2_with (go_at_call 14; refine Stop.mk ?_)
        unfold Stop
        generalize (w9.setCell ⟨V, 3, none⟩ (.slice o9 Dl c9)) = w10 at HR10 HX10 HD10 HK10 HV10 r0 r1 r2 r3 ⊢
        clear p2 p3 q2' q3'
        have hbd : rb ≠ w.heap.size ∧ V ≠ w.heap.size ∧ w1.heap.size ≤ rb ∧ w1.heap.size ≤ V := by have := HK2.out.size; omega
        have hk10 : Kp (fun _ => False) w1 w10 := ((HK2.out.mono (S' := fun k => w1.heap.size ≤ k) (fun _ _ h => h.elim)).andThen HK10.out (fun i _ h => by rcases h with h | h <;> omega)).fin
        have HK10' := Lib.hid hk10
        clear hk10
        by_cases hfit : srv xs = some B1 ∧ 1 ≤ n1 ∧ n1 < 1099511627776 ∧ 1 ≤ n2 ∧ n2 < 1099511627776 ∧ Dl ≤ 60000
        · have HF := Lib.hid hfit
          have hP := snPut_good (o := o7) (o' := o9) c7 c9 hfit.1 hfit.2.1 hfit.2.2.1 hfit.2.2.2.1 hfit.2.2.2.2.1 (by rw [HDl.out]; exact hfit.2.2.2.2.2) HX10.out HD10.out HB9.out.2
          rw [HXL.out, HDl.out] at hP
          have HP := Lib.hid hP
          clear hfit hP
          refine (HP.out).mono ?_
          rintro e w11 ⟨o11, c11, rfl, ho11, hk11⟩
          have HEN := Lib.hid (end_any (HR10.out.kp hk11 (fun h => h) (fun _ _ h => h)))
          have HK11 := Lib.hid ((HKB.out.trans HK10'.out).trans hk11)
          have hT11 : w11.heap[w.heap.size]? = some (.cells #[.int .i64 0, .int .i64 0, .slice none 0 0, .slice none 0 0] 47 (0, 0)) := (HK10'.out.trans hk11).heap HT1.out (fun h => h)
          have hV11 := hk11.heap HV10.out (fun h => h)
          have HX11 := Lib.hid (HX10.out.no hk11)
          have HD11 := Lib.hid (HD10.out.no hk11)
          have d0 := cell_of hT11 0 rfl
          have d1 := cell_of hT11 1 rfl
          have d2 := cell_of hT11 2 rfl
          have d3 := cell_of hT11 3 rfl
          have f0 := free_of hT11 0
          have f1 := free_of hT11 1
          have f2 := free_of hT11 2
          have f3 := free_of hT11 3
          have e0 := cell_of hV11 0 (v := .int .i64 n1) rfl
          have e1 := cell_of hV11 1 (v := .int .i64 n2) rfl
          have e2 := cell_of hV11 2 (v := .slice o7 xl c7) rfl
          have e3 := cell_of hV11 3 (v := .slice o9 Dl c9) rfl
          have HT11 := Lib.hid hT11
          clear hk11 hT11 hV11 r0 r1 r2 r3 HR10 HX10 HD10 HV10 HP
          rcases end_or q4 with ⟨hq1, hq2, hq⟩ | hq
          · rw [hq] at HEN
            have HQ := Lib.hid (⟨hq1, hq2⟩ : q4.e = 0 ∧ q4.b = [])
            clear hq hq1 hq2
            go_wp2_with (first | (go_at_call 22; refine (HEN.out).mono ?_; rintro e w12 ⟨rfl, rfl⟩))
            have z := set4 (p := .int .i64 n1) (q := .int .i64 n2) (r := .slice o7 xl c7) (s := .slice o9 Dl c9) HT11.out
            have z0 := cell_of z 0 rfl
            have z1 := cell_of z 1 rfl
            have z2 := cell_of z 2 rfl
            have z3 := cell_of z 3 rfl
            refine bodyPost_ret (v := .tuple #[.agg #[.int .i64 n1, .int .i64 n2, .slice o7 xl c7, .slice o9 Dl c9], .int .i64 0]) (by simp [results, Tryz.results13, go_sem, z0, z1, z2, z3]) rfl ⟨kp4 HK11.out (Nat.le_refl _), .inr ⟨n1, n2, xs, B1, D, o7, c7, o9, c9, ?_, HF.out.1, HF.out.2.1, HF.out.2.2.1, HF.out.2.2.2.1, HF.out.2.2.2.2.1, by rw [HDl.out]; exact HF.out.2.2.2.2.2, HB9.out.2, ?_, ?_, by rw [HXL.out, HDl.out]⟩⟩
            · have e9 := HO9.out HQ.out.1
              have e6 := HO6.out (HE9.out HQ.out.1)
              have e4 := HO4.out (HE6.out (HE9.out HQ.out.1))
              have e3 := HO3.out (HE4.out (HE6.out (HE9.out HQ.out.1)))
              have hd : d = snP n1 n2 B1 D := by
                have h3 : d = enc n1 ++ q1.b := e3.1
                rw [h3, e4.1, e6.1, e9.1, HQ.out.2, List.append_nil]
                rfl
              rw [← hd]
              exact HB.out
            · exact (HX11.out).kp kpb4 (fun g hg => by have := HBLK.out g hg; show ¬ g = w.heap.size; omega)
            · exact (HD11.out).kp kpb4 (fun g hg => by have := HDB.out g hg; show ¬ g = w.heap.size; omega)
          · generalize (if q4.e ≠ 0 then q4.e else if q4.b.length = 0 then 0 else 21) = er at HEN hq
            go_wp2_with (first | (go_at_call 22; refine (HEN.out).mono ?_; rintro e w12 ⟨rfl, rfl⟩))
            have z := set4 (p := .int .i64 0) (q := .int .i64 0) (r := .slice none 0 0) (s := .slice none 0 0) HT11.out
            have z0 := cell_of z 0 rfl
            have z1 := cell_of z 1 rfl
            have z2 := cell_of z 2 rfl
            have z3 := cell_of z 3 rfl
            exact bodyPost_ret (v := .tuple #[.agg #[.int .i64 0, .int .i64 0, .slice none 0 0, .slice none 0 0], .int .i64 21]) (by simp [results, Tryz.results13, go_sem, z0, z1, z2, z3]) rfl ⟨kp4 HK11.out (Nat.le_refl _), .inl rfl⟩
        · have hn : srv xs = none ∨ n1 < 1 ∨ 1099511627776 ≤ n1 ∨ n2 < 1 ∨ 1099511627776 ≤ n2 ∨ 60000 < Dl := by
            rcases HSRV.out with h | h
            · exact .inl h
            · have h2 : ¬ (1 ≤ n1 ∧ n1 < 1099511627776 ∧ 1 ≤ n2 ∧ n2 < 1099511627776 ∧ Dl ≤ 60000) := fun h3 => hfit ⟨h, h3⟩
              exact .inr (by omega)
          have hP := snPut_bad (w := w10) (o := o7) (o' := o9) c7 c9 HX10.out hn
          rw [HXL.out] at hP
          have HP := Lib.hid hP
          clear hfit hP hn
          refine (HP.out).mono ?_
          rintro e w11 ⟨rfl, hk11⟩
          have HEN := Lib.hid (end_any (HR10.out.kp hk11 (fun h => h) (fun _ _ h => h)))
          have HK11 := Lib.hid ((HKB.out.trans HK10'.out).trans hk11)
          have hT11 : w11.heap[w.heap.size]? = some (.cells #[.int .i64 0, .int .i64 0, .slice none 0 0, .slice none 0 0] 47 (0, 0)) := (HK10'.out.trans hk11).heap HT1.out (fun h => h)
          have hV11 := hk11.heap HV10.out (fun h => h)
          have HX11 := Lib.hid (HX10.out.no hk11)
          have HD11 := Lib.hid (HD10.out.no hk11)
          have d0 := cell_of hT11 0 rfl
          have d1 := cell_of hT11 1 rfl
          have d2 := cell_of hT11 2 rfl
          have d3 := cell_of hT11 3 rfl
          have f0 := free_of hT11 0
          have f1 := free_of hT11 1
          have f2 := free_of hT11 2
          have f3 := free_of hT11 3
          have e0 := cell_of hV11 0 (v := .int .i64 n1) rfl
          have e1 := cell_of hV11 1 (v := .int .i64 n2) rfl
          have e2 := cell_of hV11 2 (v := .slice o7 xl c7) rfl
          have e3 := cell_of hV11 3 (v := .slice o9 Dl c9) rfl
          have HT11 := Lib.hid hT11
          clear hk11 hT11 hV11 r0 r1 r2 r3 HR10 HX10 HD10 HV10 HP
          by_cases hq : (if q4.e ≠ 0 then q4.e else if q4.b.length = 0 then 0 else 21) = (0 : Int)
          · rw [hq] at HEN
            clear hq
            go_wp2_with (first | (go_at_call 22; refine (HEN.out).mono ?_; rintro e w12 ⟨rfl, rfl⟩))
            have z := set4 (p := .int .i64 0) (q := .int .i64 0) (r := .slice none 0 0) (s := .slice none 0 0) HT11.out
            have z0 := cell_of z 0 rfl
            have z1 := cell_of z 1 rfl
            have z2 := cell_of z 2 rfl
            have z3 := cell_of z 3 rfl
            exact bodyPost_ret (v := .tuple #[.agg #[.int .i64 0, .int .i64 0, .slice none 0 0, .slice none 0 0], .int .i64 21]) (by simp [results, Tryz.results13, go_sem, z0, z1, z2, z3]) rfl ⟨kp4 HK11.out (Nat.le_refl _), .inl rfl⟩
          · generalize (if q4.e ≠ 0 then q4.e else if q4.b.length = 0 then 0 else 21) = er at HEN hq
            go_wp2_with (first | (go_at_call 22; refine (HEN.out).mono ?_; rintro e w12 ⟨rfl, rfl⟩))
            have z := set4 (p := .int .i64 0) (q := .int .i64 0) (r := .slice none 0 0) (s := .slice none 0 0) HT11.out
            have z0 := cell_of z 0 rfl
            have z1 := cell_of z 1 rfl
            have z2 := cell_of z 2 rfl
            have z3 := cell_of z 3 rfl
            exact bodyPost_ret (v := .tuple #[.agg #[.int .i64 0, .int .i64 0, .slice none 0 0, .slice none 0 0], .int .i64 21]) (by simp [results, Tryz.results13, go_sem, z0, z1, z2, z3]) rfl ⟨kp4 HK11.out (Nat.le_refl _), .inl rfl⟩
      · have h4I : ¬ ((k : Int) = 5) := by omega
        go_wp2_with fail
        have z := set4 (p := .int .i64 0) (q := .int .i64 0) (r := .slice none 0 0) (s := .slice none 0 0) HT1.out
        have z0 := cell_of z 0 rfl
        have z1 := cell_of z 1 rfl
        have z2 := cell_of z 2 rfl
        have z3 := cell_of z 3 rfl
        exact bodyPost_ret (v := .tuple #[.agg #[.int .i64 0, .int .i64 0, .slice none 0 0, .slice none 0 0], .int .i64 21]) (by simp [results, Tryz.results13, go_sem, z0, z1, z2, z3]) rfl ⟨kp4 HKB.out (Nat.le_refl _), .inl rfl⟩
    · have hnI : ¬ ((n : Int) = 1) := by omega
      go_wp2_with fail
      have z := set4 (p := .int .i64 0) (q := .int .i64 0) (r := .slice none 0 0) (s := .slice none 0 0) HT1.out
      have z0 := cell_of z 0 rfl
      have z1 := cell_of z 1 rfl
      have z2 := cell_of z 2 rfl
      have z3 := cell_of z 3 rfl
      exact bodyPost_ret (v := .tuple #[.agg #[.int .i64 0, .int .i64 0, .slice none 0 0, .slice none 0 0], .int .i64 21]) (by simp [results, Tryz.results13, go_sem, z0, z1, z2, z3]) rfl ⟨kp4 HKB.out (Nat.le_refl _), .inl rfl⟩
  · go_wp2_with fail
    have z := set4 (p := .int .i64 0) (q := .int .i64 0) (r := .slice none 0 0) (s := .slice none 0 0) HT1.out
    have z0 := cell_of z 0 rfl
    have z1 := cell_of z 1 rfl
    have z2 := cell_of z 2 rfl
    have z3 := cell_of z 3 rfl
    exact bodyPost_ret (v := .tuple #[.agg #[.int .i64 0, .int .i64 0, .slice none 0 0, .slice none 0 0], .int .i64 21]) (by simp [results, Tryz.results13, go_sem, z0, z1, z2, z3]) rfl ⟨kp4 HKB.out (Nat.le_refl _), .inl rfl⟩
end Go.Proofs.YtecohkoekifeiaaGreatDoor
