/-
  machine.Restore, walked once.
-/
import Derived.Test.YtecohkoekifeiaaGreatDoorXl
import Derived.Deep.DeepCutAuto
import Derived.Deep.CutBlock
set_option linter.all false
namespace Go.Proofs.YtecohkoekifeiaaGreatDoor
open Go.ChangeShapes Go.WideShapes Go.ChangeAt Go.RowKit
set_option linter.unusedVariables false
set_option linter.unusedSimpArgs false

/-- A number that comes, in short words. -/
theorem num_go {w : World} {rb : Nat} {G : Option Nat} {q : Rd} {a : Option Addr} {c : Nat} (h : Rdr w rb G q a c) (hb : Byte q.b) (hl : q.b.length ≤ 16777216) :
    ∃ (z : Nat) (q' : Rd), Byte q'.b ∧ q'.b.length ≤ 16777216 ∧ z < 281474976710656 ∧ (q'.e = 0 → q.e = 0 ∧ q.b = enc z ++ q'.b) ∧
      Calls Tryz.prog 20 #[.pointer (some ⟨rb, 0, none⟩)] w (fun e w' => e = .returned (.int .i64 z) ∧ ∃ a' c', Rdr w' rb G q' a' c' ∧ Kp (fun k => k = rb) w w') :=
  ⟨q.num.1, q.num.2, Rd.num_byte hb, Nat.le_trans num_lt hl, num_48 hb, fun he => ⟨Rd.num_e he, (Rd.num_ok hb he).1⟩, num_reads h hb (by omega)⟩
theorem bytes_lt2 {r : Rd} : r.bytes.2.b.length ≤ r.b.length ∧ r.bytes.1.length ≤ r.b.length := by
  have := @num_lt r
  unfold Rd.bytes
  split
  · split
    · split
      · simp
      · split
        · simp
        · simp only [List.length_drop, List.length_take]
          omega
    · simp
  · simp
theorem bytes_go {w : World} {rb : Nat} {G : Option Nat} {q : Rd} {a : Option Addr} {c : Nat} (h : Rdr w rb G q a c) (hb : Byte q.b) (hl : q.b.length ≤ 16777216) :
    ∃ (d : List Int) (q' : Rd), Byte q'.b ∧ q'.b.length ≤ 16777216 ∧ d.length ≤ 16777216 ∧ (q'.e = 0 → q.e = 0 ∧ q.b = encB d ++ q'.b) ∧
      Calls Tryz.prog 21 #[.pointer (some ⟨rb, 0, none⟩)] w (fun e w' => ∃ o co, e = .returned (.slice o d.length co) ∧ Owns w' w.heap.size 5 1 o d.length co (bytes d) ∧ ∃ a' c', Rdr w' rb G q' a' c' ∧ Kp (fun k => k = rb) w w') :=
  ⟨q.bytes.1, q.bytes.2, (Rd.bytes_byte hb).1, Nat.le_trans bytes_lt2.1 hl, Nat.le_trans bytes_lt2.2 hl, fun he => ⟨Rd.bytes_e he, (Rd.bytes_ok hb he).1⟩, bytes_reads h hb (by omega)⟩
theorem rcB_ge : ∀ l : List Pt, l.length ≤ (rcB l).length
  | [] => by simp [rcB]
  | e :: r => by
    have h3 := rcB_ge r
    simp only [rcB, List.flatMap_cons, List.length_append, List.length_cons, encB, enc] at h3 ⊢
    omega
theorem RI.start {w : World} {rb : Nat} {G : Option Nat} {B ap st : Nat} {q : Rd} {a : Option Addr} {c : Nat} {V : World} (h : RI w rb G B 0 0 none 0 0 q a c V) :
    RI w rb G B ap st none 0 0 q a c ((V.setCell ⟨w.heap.size + 1, 1, none⟩ (.int .i64 ap)).setCell ⟨w.heap.size + 1, 2, none⟩ (.int .i64 st)) ∧ Kp (fun j => j = w.heap.size + 1) V ((V.setCell ⟨w.heap.size + 1, 1, none⟩ (.int .i64 ap)).setCell ⟨w.heap.size + 1, 2, none⟩ (.int .i64 st)) := by
  have k : Kp (fun j => j = w.heap.size + 1) V ((V.setCell ⟨w.heap.size + 1, 1, none⟩ (.int .i64 ap)).setCell ⟨w.heap.size + 1, 2, none⟩ (.int .i64 st)) := ((Kp.refl (fun j => j = w.heap.size + 1) V).setCell (p := ⟨w.heap.size + 1, 1, none⟩) (.inl rfl) _).setCell (p := ⟨w.heap.size + 1, 2, none⟩) (.inl rfl) _
  exact ⟨⟨heap_set (heap_set h.mc 1 _) 2 _, h.rd.kp k (by have := h.rb_; omega) (fun g hg => by have := (h.g_ g hg).1; omega), h.rb_, h.rB, h.g_, h.kp.andThen k (fun j hj e => by omega), Nat.le_trans h.B_ k.size⟩, k⟩

/-- What machine.Restore tells. -/
def RestAt (b : List Int) (w : World) (e : Ending) (w' : World) : Prop :=
  Kp (fun _ => False) w w' ∧ (e = .returned (.tuple #[.pointer none, .int .i64 21]) ∨
    ∃ (bb mm ap st : Nat) (l : List Se) (o : Option Addr) (co : Nat) (rs : List Pt), e = .returned (.tuple #[.pointer (some ⟨bb, 0, none⟩), .int .i64 0]) ∧ Mach w' bb mm ap st l o co rs ∧ Small ap st l rs ∧ saveB ap st l rs = b)
/-- The head may be. -/
def Head (ap st t n : Nat) : Prop := ap < 1099511627776 ∧ st ≤ t ∧ t < 1099511627776 ∧ n ≤ 16
instance (ap st t n : Nat) : Decidable (Head ap st t n) := by unfold Head; infer_instance
/-- A session may be. -/
def Fits (was ap t ei es en el : Nat) : Prop := was < ei ∧ ei ≤ ap ∧ es < 1099511627776 ∧ (en < t ∨ en = 0) ∧ ei ≤ el ∧ el ≤ ap
instance (was ap t ei es en el : Nat) : Decidable (Fits was ap t ei es en el) := by unfold Fits; infer_instance
/-- Behind the sessions. -/
def Cut1 (w : World) (rb : Nat) (G : Option Nat) (B ap st t n k : Nat) (q4 : Rd) (was : Nat) (ok : Bool) (wx : World) : Prop :=
  ∃ (q : Rd) (aq : Option Addr) (cq : Nat) (l : List Se), RI w rb G B ap st none 0 0 q aq cq wx ∧ Byte q.b ∧ q.b.length ≤ 16777216 ∧ (ok = true → Head ap st t n ∧ l.length = k ∧ Sess w B ap t l was wx ∧ (q.e = 0 → q4.e = 0 ∧ q4.b = seB l ++ q.b))
/-- Behind the records. -/
def Cut2 (w : World) (rb : Nat) (G : Option Nat) (B ap st : Nat) (U : World) (ok1 : Bool) (q5 : Rd) (k : Nat) (ok : Bool) (wx : World) : Prop :=
  ∃ (q : Rd) (aq : Option Addr) (cq : Nat) (oa : Option Addr) (ca : Nat) (rs : List Pt), RI w rb G B ap st oa k ca q aq cq wx ∧ Byte q.b ∧ q.b.length ≤ 16777216 ∧ Kp (fun j => j = rb ∨ j = w.heap.size + 1 ∨ U.heap.size ≤ j) U wx ∧
    Owns wx U.heap.size 22 1 oa k ca (rs.map Pt.val) ∧ rs.length = k ∧ (∀ r ∈ rs, Owns wx U.heap.size 5 1 r.a r.d.length r.c (bytes r.d)) ∧ (ok = true → ok1 = true ∧ (∀ r ∈ rs, r.d.length ≤ 1024) ∧ (q.e = 0 → q5.e = 0 ∧ q5.b = rcB rs ++ q.b))

set_option maxRecDepth 100000 in
set_option maxHeartbeats 8000000 in
theorem restore_any {w : World} {a : Option Addr} {b : List Int} (h : Row w a (bytes b)) (hB : Byte b) (hm : b.length ≤ 16777216) (c : Nat) : Calls Tryz.prog 15 #[.int .i64 100, .slice a b.length c] w (RestAt b w) := by
  have HN := Lib.hid (fun (u : World) (hu : Kp (fun _ => False) w u) => new_in (h.no hu) (by omega) c)
  have HMN := Lib.hid (mNew_any w)
  have HB := Lib.hid hB
  have HM := Lib.hid hm
  clear h hB hm
  go_enter Tryz.func15, Tryz.ntmps15
  go_wp2_with (go_at_call 37; refine Stop.mk ?_)
  unfold Stop
  refine (HMN.out).mono ?_
  rintro e w1 ⟨rfl, hmap, hblk, hsz, hk1⟩
  have H1 := Lib.hid (And.intro hmap (And.intro hblk (And.intro hsz hk1)))
  clear hmap hblk hsz hk1 HMN
  go_wp2_with (go_at_call 19; refine Stop.mk ?_)
  unfold Stop
  refine (HN.out w1 H1.out.2.2.2).mono ?_
  rintro e w2 ⟨rb, G, o1, co1, rfl, hr, hrb, hG, hk2⟩
  have hs1 := H1.out.2.2.1
  have hri : RI w rb G w2.heap.size 0 0 none 0 0 ⟨0, b⟩ o1 co1 w2 := ⟨hk2.heap H1.out.2.1 (fun h => h), hr, by omega, lt_of_block hr.blk, fun g hg => ⟨by have := (hG g hg).1; omega, (hG g hg).2⟩, (H1.out.2.2.2.trans hk2).no, Nat.le_refl _⟩
  have hmp : w2.heap[w.heap.size]? = some (.map #[] 0) := hk2.heap H1.out.1 (fun h => h)
  have HRI := Lib.hid hri
  have HMP := Lib.hid hmp
  clear hr hrb hG hk2 hs1 hri hmp HN H1
  generalize hq0 : (⟨0, b⟩ : Rd) = q0 at HRI
  have hb0 : Byte q0.b := by rw [← hq0]; exact HB.out
  have hl0 : q0.b.length ≤ 16777216 := by rw [← hq0]; exact HM.out
  have HQ0 := Lib.hid hq0
  have HL0 := Lib.hid hl0
  clear hq0 HB HM
  obtain ⟨B, hBe⟩ : ∃ B, B = w2.heap.size := ⟨_, rfl⟩
  rw [← hBe] at HRI
  have HMP2 := Lib.hid (⟨HMP.out, hBe⟩ : w2.heap[w.heap.size]? = some (.map #[] 0) ∧ B = w2.heap.size)
  clear hBe HMP
  have HKU := Lib.hid (Kp.refl (fun j => j = rb) w2)
  go_wp2_with (go_at_call 20; refine Stop.mk ?_)
  unfold Stop
  obtain ⟨ap, q1, hb1, hl1, ht1, ho1, hc1⟩ := num_go HRI.out.rd hb0 hl0
  have HO1 := Lib.hid (And.intro ht1 ho1)
  refine hc1.mono ?_
  rintro e u0 ⟨rfl, a0, c0, hr, hk⟩
  have HRI' := Lib.hid (HRI.out.step hk hr)
  have HKU' := Lib.hid (HKU.out.trans hk)
  clear HRI HKU hr hk hb0 hl0 ht1 ho1 hc1
  have HRI := Lib.hid HRI'.out
  have HKU := Lib.hid HKU'.out
  clear HRI' HKU'
  go_wp2_with (go_at_call 20; refine Stop.mk ?_)
  unfold Stop
  obtain ⟨st, q2, hb2, hl2, ht2, ho2, hc2⟩ := num_go HRI.out.rd hb1 hl1
  have HO2 := Lib.hid (And.intro ht2 ho2)
  refine hc2.mono ?_
  rintro e u1 ⟨rfl, a1, c1, hr, hk⟩
  have HRI' := Lib.hid (HRI.out.step hk hr)
  have HKU' := Lib.hid (HKU.out.trans hk)
  clear HRI HKU hr hk hb1 hl1 ht2 ho2 hc2
  have HRI := Lib.hid HRI'.out
  have HKU := Lib.hid HKU'.out
  clear HRI' HKU'
  go_wp2_with (go_at_call 20; refine Stop.mk ?_)
  unfold Stop
  obtain ⟨t, q3, hb3, hl3, ht3, ho3, hc3⟩ := num_go HRI.out.rd hb2 hl2
  have HO3 := Lib.hid (And.intro ht3 ho3)
  refine hc3.mono ?_
  rintro e u2 ⟨rfl, a2, c2, hr, hk⟩
  have HRI' := Lib.hid (HRI.out.step hk hr)
  have HKU' := Lib.hid (HKU.out.trans hk)
  clear HRI HKU hr hk hb2 hl2 ht3 ho3 hc3
  have HRI := Lib.hid HRI'.out
  have HKU := Lib.hid HKU'.out
  clear HRI' HKU'
  go_wp2_with (go_at_call 20; refine Stop.mk ?_)
  unfold Stop
  obtain ⟨n, q4, hb4, hl4, ht4, ho4, hc4⟩ := num_go HRI.out.rd hb3 hl3
  have HO4 := Lib.hid (And.intro ht4 ho4)
  refine hc4.mono ?_
  rintro e u3 ⟨rfl, a3, c3, hr, hk⟩
  have HRI' := Lib.hid (HRI.out.step hk hr)
  have HKU' := Lib.hid (HKU.out.trans hk)
  clear HRI HKU hr hk hb3 hl3 ht4 ho4 hc4
  have HRI := Lib.hid HRI'.out
  have HKU := Lib.hid HKU'.out
  clear HRI' HKU'
  have cc1 := cell_of HRI.out.mc 1 (v := .int .i64 0) rfl
  have ff1 := free_of HRI.out.mc 1
  have cc2 := cell_of HRI.out.mc 2 (v := .int .i64 0) rfl
  have ff2 := free_of HRI.out.mc 2
  go_upto_region 7 with fail
  clear cc1 ff1 cc2 ff2
  obtain ⟨hri5, hk5⟩ := HRI.out.start (ap := ap) (st := st)
  have hkv : Kp (fun j => j = rb ∨ j = w.heap.size + 1) w2 ((u3.setCell ⟨w.heap.size + 1, 1, none⟩ (.int .i64 ap)).setCell ⟨w.heap.size + 1, 2, none⟩ (.int .i64 st)) := (HKU.out.mono (fun j _ h => .inl h)).trans (hk5.mono (fun j _ h => .inr h))
  have hmv := hkv.heap HMP2.out.1 (fun h => by have := hri5.rb_; omega)
  have HRV := Lib.hid hri5
  have HMV := Lib.hid hmv
  clear hkv hri5 hk5 HRI HKU hmv HMP2
  generalize (u3.setCell ⟨w.heap.size + 1, 1, none⟩ (.int .i64 ap)).setCell ⟨w.heap.size + 1, 2, none⟩ (.int .i64 st) = V at HRV HMV ⊢
  go_cut [11] (fun s wx => s = .bool (decide (Head ap st t n)) ∧ wx = V)
  case first =>
    have c1 := cell_of HRV.out.mc 1 (v := .int .i64 ap) rfl
    have c2 := cell_of HRV.out.mc 2 (v := .int .i64 st) rfl
    have HD := Lib.hid (show Head ap st t n ↔ ((ap : Int) < 1099511627776 ∧ (st : Int) ≤ (t : Int) ∧ (t : Int) < 1099511627776 ∧ (n : Int) ≤ 16) by unfold Head; omega)
    clear HRV HMV HO1 HO2 HO3 HO4
    generalize (ap : Int) = apz at c1 HD ⊢
    generalize (st : Int) = stz at c2 HD ⊢
    generalize htz : (t : Int) = tz at HD ⊢
    generalize hnz : (n : Int) = nz at HD ⊢
    have HTZ := Lib.hid htz
    have HNZ := Lib.hid hnz
    clear htz hnz
    by_cases e1 : apz < 1099511627776
    · by_cases e2 : stz ≤ tz
      · by_cases e3 : tz < 1099511627776
        · by_cases e4 : nz ≤ 16
          · go_wp2
            have e5 := HTZ.out
            have e6 := HNZ.out
            subst e5 e6
            go_meet
            case rel => exact ⟨congrArg Value.bool (decide_eq_true (HD.out.2 ⟨e1, e2, e3, e4⟩)).symm, rfl⟩
          · go_wp2
            have e5 := HTZ.out
            have e6 := HNZ.out
            subst e5 e6
            go_meet
            case rel => exact ⟨congrArg Value.bool (decide_eq_false (fun h => by have := HD.out.1 h; omega)).symm, rfl⟩
        · go_wp2
          have e5 := HTZ.out
          have e6 := HNZ.out
          subst e5 e6
          go_meet
          case rel => exact ⟨congrArg Value.bool (decide_eq_false (fun h => by have := HD.out.1 h; omega)).symm, rfl⟩
      · go_wp2
        have e5 := HTZ.out
        have e6 := HNZ.out
        subst e5 e6
        go_meet
        case rel => exact ⟨congrArg Value.bool (decide_eq_false (fun h => by have := HD.out.1 h; omega)).symm, rfl⟩
    · go_wp2
      have e5 := HTZ.out
      have e6 := HNZ.out
      subst e5 e6
      go_meet
      case rel => exact ⟨congrArg Value.bool (decide_eq_false (fun h => by have := HD.out.1 h; omega)).symm, rfl⟩
  case rest =>
    obtain ⟨rfl, hwc⟩ := hcut
    subst wc
    go_upto_block 0 with fail
    have hc1 : Cut1 w rb G B ap st t n 0 q4 0 (decide (Head ap st t n)) V := ⟨q4, a3, c3, [], HRV.out, hb4, hl4, fun h => ⟨of_decide_eq_true h, rfl, ⟨HMV.out, (fun _ h => by cases h), List.Pairwise.nil, (fun _ h => by cases h), (fun _ h => by cases h)⟩, fun h => ⟨h, rfl⟩⟩⟩
    have HC1 := Lib.hid hc1
    clear hc1 HRV HMV
    generalize hok0 : decide (Head ap st t n) = ok0 at HC1 ⊢
    clear hok0
    go_cut [11] (fun s wx => ∃ (ok : Bool) (was : Nat), s = .bool ok ∧ Cut1 w rb G B ap st t n n q4 was ok wx)
    case first =>
      go_wp2_with fail
      go_loopw [13, 12, 11] (fun i z s wr => ∃ (k : Nat) (ok : Bool) (was : Nat), i = .int .i64 k ∧ z = .int .i64 was ∧ s = .bool ok ∧ k ≤ n ∧ Cut1 w rb G B ap st t n k q4 was ok wr) (fun i _ _ _ => n - (intOf i).toNat)
      case atStart => exact ⟨0, ok0, 0, rfl, rfl, rfl, Nat.zero_le _, HC1.out⟩
      case round =>
        clear HC1
        obtain ⟨k, ok, was, rfl, rfl, rfl, hk, hcc⟩ := hrel
        have HC := Lib.hid hcc
        clear hcc
        have ht4 := HO4.out.1
        by_cases hlt : k < n
        · cases ok with
          | true =>
            obtain ⟨q, aq, cq, l, hri, hbq, hlq, hgood⟩ := HC.out
            obtain ⟨hhead, hlk, hse, hby⟩ := hgood rfl
            have HRI := Lib.hid hri
            have HSE := Lib.hid hse
            have HHD := Lib.hid (And.intro hhead (And.intro hlk hby))
            clear hri hse hhead hlk hby hgood HC
            have hkI : (k : Int) < (n : Int) := by omega
            go_wp2_with (go_at_call 20; refine Stop.mk ?_)
            unfold Stop
            obtain ⟨ei, r1, hbr1, hlr1, ht, ho, hc⟩ := num_go HRI.out.rd hbq hlq
            have HP1 := Lib.hid (And.intro ht ho)
            refine hc.mono ?_
            rintro e v0 ⟨rfl, p0, d0, hr, hk⟩
            have HRI' := Lib.hid (HRI.out.step hk hr)
            have HSE' := Lib.hid (HSE.out.kp hk (by have := HRI.out.rb_; omega) (fun j hj _ e => by have := HRI.out.rB; omega))
            clear HRI HSE hr hk hbq hlq ht ho hc
            have HRI := Lib.hid HRI'.out
            have HSE := Lib.hid HSE'.out
            clear HRI' HSE'
            go_wp2_with (go_at_call 20; refine Stop.mk ?_)
            unfold Stop
            obtain ⟨es, r2, hbr2, hlr2, ht, ho, hc⟩ := num_go HRI.out.rd hbr1 hlr1
            have HP2 := Lib.hid (And.intro ht ho)
            refine hc.mono ?_
            rintro e v1 ⟨rfl, p1, d1, hr, hk⟩
            have HRI' := Lib.hid (HRI.out.step hk hr)
            have HSE' := Lib.hid (HSE.out.kp hk (by have := HRI.out.rb_; omega) (fun j hj _ e => by have := HRI.out.rB; omega))
            clear HRI HSE hr hk hbr1 hlr1 ht ho hc
            have HRI := Lib.hid HRI'.out
            have HSE := Lib.hid HSE'.out
            clear HRI' HSE'
            go_wp2_with (go_at_call 20; refine Stop.mk ?_)
            unfold Stop
            obtain ⟨en, r3, hbr3, hlr3, ht, ho, hc⟩ := num_go HRI.out.rd hbr2 hlr2
            have HP3 := Lib.hid (And.intro ht ho)
            refine hc.mono ?_
            rintro e v2 ⟨rfl, p2, d2, hr, hk⟩
            have HRI' := Lib.hid (HRI.out.step hk hr)
            have HSE' := Lib.hid (HSE.out.kp hk (by have := HRI.out.rb_; omega) (fun j hj _ e => by have := HRI.out.rB; omega))
            clear HRI HSE hr hk hbr2 hlr2 ht ho hc
            have HRI := Lib.hid HRI'.out
            have HSE := Lib.hid HSE'.out
            clear HRI' HSE'
            go_wp2_with (go_at_call 20; refine Stop.mk ?_)
            unfold Stop
            obtain ⟨el, r4, hbr4, hlr4, ht, ho, hc⟩ := num_go HRI.out.rd hbr3 hlr3
            have HP4 := Lib.hid (And.intro ht ho)
            refine hc.mono ?_
            rintro e v3 ⟨rfl, p3, d3, hr, hk⟩
            have HRI' := Lib.hid (HRI.out.step hk hr)
            have HSE' := Lib.hid (HSE.out.kp hk (by have := HRI.out.rb_; omega) (fun j hj _ e => by have := HRI.out.rB; omega))
            clear HRI HSE hr hk hbr3 hlr3 ht ho hc
            have HRI := Lib.hid HRI'.out
            have HSE := Lib.hid HSE'.out
            clear HRI' HSE'
            go_upto_region 14 with fail
            have hka := (Kp.refl (fun _ => False) v3).alloc (.cells #[.int .i64 es, .int .i64 en, .int .i64 el] 92)
            have hnb := heap_new v3 (.cells #[.int .i64 es, .int .i64 en, .int .i64 el] 92)
            have hri5 := HRI.out.no hka
            have hse5 := HSE.out.kp hka (fun h => h) (fun _ _ _ h => h)
            have hBn := HRI.out.B_
            obtain ⟨nb, hnbe⟩ : ∃ nb, nb = v3.heap.size := ⟨_, rfl⟩
            rw [← hnbe] at hnb hBn ⊢
            have HR5 := Lib.hid hri5
            have HS5 := Lib.hid hse5
            have HNB := Lib.hid (And.intro hBn hnb)
            clear hnbe hka hri5 hse5 hBn hnb HRI HSE
            generalize v3.alloc (.cells #[.int .i64 es, .int .i64 en, .int .i64 el] 92) = V4 at HR5 HS5 HNB ⊢
            go_cut [11] (fun s wx => s = .bool (decide (Fits was ap t ei es en el)) ∧ Kp (fun _ => False) V4 wx)
            case first =>
              have c1 := cell_of HR5.out.mc 1 (v := .int .i64 ap) rfl
              have d0 := cell_of HNB.out.2 0 (v := .int .i64 es) rfl
              have d1 := cell_of HNB.out.2 1 (v := .int .i64 en) rfl
              have d2 := cell_of HNB.out.2 2 (v := .int .i64 el) rfl
              have HD := Lib.hid (show Fits was ap t ei es en el ↔ ((was : Int) < (ei : Int) ∧ (ei : Int) ≤ (ap : Int) ∧ (es : Int) < 1099511627776 ∧ ((en : Int) < (t : Int) ∨ (en : Int) = 0) ∧ (ei : Int) ≤ (el : Int) ∧ (el : Int) ≤ (ap : Int)) by unfold Fits; omega)
              clear HR5 HS5 HNB HHD HO1 HO2 HO3 HO4 HP1 HP2 HP3 HP4
              generalize hesz : (es : Int) = esz at d0 HD ⊢
              have HEZ := Lib.hid hesz
              clear hesz
              by_cases f1 : (was : Int) < (ei : Int)
              · by_cases f2 : (ei : Int) ≤ (ap : Int)
                · by_cases f3 : esz < 1099511627776
                  · by_cases f4 : (en : Int) < (t : Int)
                    · by_cases f6 : (ei : Int) ≤ (el : Int)
                      · by_cases f7 : (el : Int) ≤ (ap : Int)
                        · go_big_quiet (fail)
                          go_wp2
                          have e5 := HEZ.out
                          subst e5
                          go_meet
                          case rel => exact ⟨congrArg Value.bool (decide_eq_true (HD.out.2 ⟨f1, f2, f3, .inl f4, f6, f7⟩)).symm, by first | exact (Kp.refl _ _).drew | exact (Kp.refl _ _).drewN _ | exact Kp.refl _ _⟩
                        · go_big_quiet (fail)
                          go_wp2
                          have e5 := HEZ.out
                          subst e5
                          go_meet
                          case rel => exact ⟨congrArg Value.bool (decide_eq_false (fun h => by have := HD.out.1 h; omega)).symm, by first | exact (Kp.refl _ _).drew | exact (Kp.refl _ _).drewN _ | exact Kp.refl _ _⟩
                      · go_big_quiet (fail)
                        go_wp2
                        have e5 := HEZ.out
                        subst e5
                        go_meet
                        case rel => exact ⟨congrArg Value.bool (decide_eq_false (fun h => by have := HD.out.1 h; omega)).symm, by first | exact (Kp.refl _ _).drew | exact (Kp.refl _ _).drewN _ | exact Kp.refl _ _⟩
                    · by_cases f5 : (en : Int) = 0
                      · have F5 := Lib.hid f5
                        have f5b : ((en : Int) == 0) = true := by simp [f5]
                        clear f5
                        by_cases f6 : (ei : Int) ≤ (el : Int)
                        · by_cases f7 : (el : Int) ≤ (ap : Int)
                          · go_big_quiet (fail)
                            go_wp2
                            have e5 := HEZ.out
                            subst e5
                            go_meet
                            case rel => exact ⟨congrArg Value.bool (decide_eq_true (HD.out.2 ⟨f1, f2, f3, .inr F5.out, f6, f7⟩)).symm, by first | exact (Kp.refl _ _).drew | exact (Kp.refl _ _).drewN _ | exact Kp.refl _ _⟩
                          · go_big_quiet (fail)
                            go_wp2
                            have e5 := HEZ.out
                            subst e5
                            go_meet
                            case rel => exact ⟨congrArg Value.bool (decide_eq_false (fun h => by have := HD.out.1 h; omega)).symm, by first | exact (Kp.refl _ _).drew | exact (Kp.refl _ _).drewN _ | exact Kp.refl _ _⟩
                        · go_big_quiet (fail)
                          go_wp2
                          have e5 := HEZ.out
                          subst e5
                          go_meet
                          case rel => exact ⟨congrArg Value.bool (decide_eq_false (fun h => by have := HD.out.1 h; omega)).symm, by first | exact (Kp.refl _ _).drew | exact (Kp.refl _ _).drewN _ | exact Kp.refl _ _⟩
                      · have f5b : ((en : Int) == 0) = false := by simpa using f5
                        go_big_quiet (fail)
                        go_wp2
                        have e5 := HEZ.out
                        subst e5
                        go_meet
                        case rel => exact ⟨congrArg Value.bool (decide_eq_false (fun h => by have := HD.out.1 h; omega)).symm, by first | exact (Kp.refl _ _).drew | exact (Kp.refl _ _).drewN _ | exact Kp.refl _ _⟩
                  · go_big_quiet (fail)
                    go_wp2
                    have e5 := HEZ.out
                    subst e5
                    go_meet
                    case rel => exact ⟨congrArg Value.bool (decide_eq_false (fun h => by have := HD.out.1 h; omega)).symm, by first | exact (Kp.refl _ _).drew | exact (Kp.refl _ _).drewN _ | exact Kp.refl _ _⟩
                · go_big_quiet (fail)
                  go_wp2
                  have e5 := HEZ.out
                  subst e5
                  go_meet
                  case rel => exact ⟨congrArg Value.bool (decide_eq_false (fun h => by have := HD.out.1 h; omega)).symm, by first | exact (Kp.refl _ _).drew | exact (Kp.refl _ _).drewN _ | exact Kp.refl _ _⟩
              · go_big_quiet (fail)
                go_wp2
                have e5 := HEZ.out
                subst e5
                go_meet
                case rel => exact ⟨congrArg Value.bool (decide_eq_false (fun h => by have := HD.out.1 h; omega)).symm, by first | exact (Kp.refl _ _).drew | exact (Kp.refl _ _).drewN _ | exact Kp.refl _ _⟩
            case rest =>
              obtain ⟨rfl, hkx⟩ := hcut
              have hri6 := HR5.out.no hkx
              have hse6 := HS5.out.kp hkx (fun h => h) (fun _ _ _ h => h)
              have hnb6 := hkx.heap HNB.out.2 (fun h => h)
              have hBn := HNB.out.1
              generalize hokk : decide (Fits was ap t ei es en el) = okk
              have HOK := Lib.hid hokk
              have hkd := (Kp.refl (fun _ => False) wc).drew
              obtain ⟨ev, born, es1, cl1, hme, hst⟩ := entry_any (w := wc.drew) hse6.map hse6.ids ei
              have HST := Lib.hid hst
              have HR7 := Lib.hid (hri6.no hkd)
              have HS7 := Lib.hid (hse6.kp hkd (fun h => h) (fun _ _ _ h => h))
              have HN7 := Lib.hid (And.intro hBn (show wc.drew.heap[nb]? = _ from hnb6))
              have hmc : wc.heap[w.heap.size + 1]? = some (.cells (machV 100 ap st none 0 0 w.heap.size) 89 (0, 0)) := hri6.mc
              clear hokk hkx hri6 hse6 hnb6 hkd hBn HR5 HS5 HNB hst
              go_wp2_with fail
              refine wp_region_held_drew (S := fun w' => w'.heap[w.heap.size + 1]? = some (.cells (machV 100 ap st none 0 0 w.heap.size) 89 (0, 0))) (by kernel_rfl) hmc (fun hHeld => ?_)
              clear hmc
              generalize wc.drew = y0 at hme hHeld HR7 HS7 HN7 ⊢
              refine tk 0 (v := ?_) rfl ?_ (by assumption) ?_
              rotate_left
              · intro w hSw
                go_simp
                try with_reducible rfl
              try simp only [Act.put, List.getElem_toArray, List.getElem_cons_zero, List.getElem_cons_succ, List.setIfInBounds_toArray, List.set_cons_zero, List.set_cons_succ]
              refine tk 1 (v := ?_) rfl ?_ (by assumption) ?_
              rotate_left
              · intro w hSw
                go_simp
                try with_reducible rfl
              try simp only [Act.put, List.getElem_toArray, List.getElem_cons_zero, List.getElem_cons_succ, List.setIfInBounds_toArray, List.set_cons_zero, List.set_cons_succ]
              refine tk 2 (v := ?_) rfl ?_ (by assumption) ?_
              rotate_left
              · intro w hSw
                go_simp
                try with_reducible rfl
              try simp only [Act.put, List.getElem_toArray, List.getElem_cons_zero, List.getElem_cons_succ, List.setIfInBounds_toArray, List.set_cons_zero, List.set_cons_succ]
              refine tk 3 (v := .map (some w.heap.size)) rfl ?_ (by assumption) ?_
              · intro wq hSw
                have hc := cell_of hSw 4 (v := .map (some w.heap.size)) rfl
                go_simp
                try with_reducible rfl
              try simp only [Act.put, List.getElem_toArray, List.getElem_cons_zero, List.getElem_cons_succ, List.setIfInBounds_toArray, List.set_cons_zero, List.set_cons_succ]
              refine tk 4 (v := ?_) rfl ?_ (by assumption) ?_
              rotate_left
              · intro w hSw
                go_simp
                try with_reducible rfl
              try simp only [Act.put, List.getElem_toArray, List.getElem_cons_zero, List.getElem_cons_succ, List.setIfInBounds_toArray, List.set_cons_zero, List.set_cons_succ]
              refine tk 5 (v := ?_) rfl ?_ (by assumption) ?_
              rotate_left
              · intro w hSw
                go_simp
                try with_reducible rfl
              try simp only [Act.put, List.getElem_toArray, List.getElem_cons_zero, List.getElem_cons_succ, List.setIfInBounds_toArray, List.set_cons_zero, List.set_cons_succ]
              refine tk 6 (v := ?_) rfl ?_ (by assumption) ?_
              rotate_left
              · intro w hSw
                go_simp
                try with_reducible rfl
              try simp only [Act.put, List.getElem_toArray, List.getElem_cons_zero, List.getElem_cons_succ, List.setIfInBounds_toArray, List.set_cons_zero, List.set_cons_succ]
              refine tk 7 (v := ?_) rfl ?_ (by assumption) ?_
              rotate_left
              · intro w hSw
                go_simp
                try with_reducible rfl
              try simp only [Act.put, List.getElem_toArray, List.getElem_cons_zero, List.getElem_cons_succ, List.setIfInBounds_toArray, List.set_cons_zero, List.set_cons_succ]
              refine rdy 8 (by kernel_rfl) rfl (fun K hK => ?_)
              go_simp
              have hlt0 := lt_of_block HS7.out.map
              have hp1 : (y0.putObj w.heap.size (.map es1 cl1)).heap[w.heap.size]? = some (.map es1 cl1) := World.putObj_heap_same hlt0
              have hkp1 := (Kp.refl (fun j => j = w.heap.size) y0).putObj (.inl rfl) (.map es1 cl1)
              refine hK.out _ _ (hkp1.heap hHeld (by omega)) (fun hHeld => ?_)
              clear hme
              obtain ⟨es2, hst, hgo⟩ := HST.out nb _ hp1
              have hkp2 := hkp1.putObj (.inl rfl) (.map es2 cl1)
              have HKF := Lib.hid hkp2
              have HRF := Lib.hid (HR7.out.map hkp2)
              have HMF := Lib.hid (fun (hall : ∀ e ∈ l, e.id < ei) s n la => (World.putObj_heap_same (w := y0.putObj w.heap.size (.map es1 cl1)) (o := .map es2 cl1) (by simpa using hlt0)).trans (congrArg some (hgo hall s n la)))
              have hmc2 := HRF.out.mc
              clear hkp1 hkp2 hgo hp1 hlt0 HST
              generalize y0.putObj w.heap.size (.map es1 cl1) = y1 at hHeld hst HKF HRF HMF hmc2 ⊢
              clear hK K
              try simp only [Act.put, List.getElem_toArray, List.getElem_cons_zero, List.getElem_cons_succ, List.setIfInBounds_toArray, List.set_cons_zero, List.set_cons_succ]
              refine tk 9 (v := ?_) rfl ?_ (by assumption) ?_
              rotate_left
              · intro w hSw
                go_simp
                try with_reducible rfl
              try simp only [Act.put, List.getElem_toArray, List.getElem_cons_zero, List.getElem_cons_succ, List.setIfInBounds_toArray, List.set_cons_zero, List.set_cons_succ]
              refine rdy 10 (by kernel_rfl) rfl (fun K hK => ?_)
              go_simp
              refine hK.out _ _ hmc2 (fun hHeld => ?_)
              clear hK K
              try simp only [Act.put, List.getElem_toArray, List.getElem_cons_zero, List.getElem_cons_succ, List.setIfInBounds_toArray, List.set_cons_zero, List.set_cons_succ]
              refine wpAnyH_done (by kernel_rfl) ?_ _
              go_wp2
              go_roundw
              case rel =>
                refine ⟨k + 1, okk, ei, by go_num, rfl, rfl, by omega, r4, p3, d3, l ++ [⟨ei, nb, es, en, el⟩], HRF.out, hbr4, hlr4, fun hok => ?_⟩
                have hF : Fits was ap t ei es en el := of_decide_eq_true (HOK.out.trans hok)
                obtain ⟨hh1, hh2, hh3⟩ := HHD.out
                refine ⟨hh1, by simp [hh2], ?_, fun he => ?_⟩
                · have hall : ∀ e ∈ l, e.id < ei := fun e he => by have := HS7.out.was_ e he; have := hF.1; omega
                  have hm := HMF.out hall es en el
                  refine ⟨by rw [List.length_append]; exact hm, fun e he => ?_, ?_, fun e he => ?_, fun e he => ?_⟩
                  · rw [List.mem_append, List.mem_singleton] at he
                    rcases he with he | rfl
                    · exact ⟨(HS7.out.ses e he).1, HKF.out.heap (HS7.out.ses e he).2 (fun (hx : e.b = w.heap.size) => by have := (HS7.out.ses e he).1; have := HRF.out.rb_; have := HRF.out.rB; omega)⟩
                    · exact ⟨HN7.out.1, HKF.out.heap HN7.out.2 (fun (hx : nb = w.heap.size) => by have := HN7.out.1; have := HRF.out.rb_; have := HRF.out.rB; omega)⟩
                  · rw [List.map_append, List.pairwise_append]
                    refine ⟨HS7.out.ids, by simp, fun x hx y hy => ?_⟩
                    obtain ⟨e, he, rfl⟩ := List.mem_map.1 hx
                    simp only [List.map_cons, List.map_nil, List.mem_singleton] at hy
                    subst hy
                    exact hall e he
                  · rw [List.mem_append, List.mem_singleton] at he
                    rcases he with he | rfl
                    · have := hall e he; omega
                    · exact Nat.le_refl _
                  · rw [List.mem_append, List.mem_singleton] at he
                    rcases he with he | rfl
                    · exact HS7.out.sok e he
                    · exact ⟨hF.2.1, hF.2.2.1, hF.2.2.2.1, hF.2.2.2.2.2⟩
                · obtain ⟨g3, e3⟩ := HP4.out.2 he
                  obtain ⟨g2, e2⟩ := HP3.out.2 g3
                  obtain ⟨g1, e1⟩ := HP2.out.2 g2
                  obtain ⟨g0, e0⟩ := HP1.out.2 g1
                  obtain ⟨gq, eq⟩ := hh3 g0
                  refine ⟨gq, ?_⟩
                  rw [eq, e0, e1, e2, e3]
                  simp [seB, nby, List.append_assoc]
              case measure => simp [intOf]; omega
          | false =>
            go_wp2_with fail
            go_meet
            case rel => exact ⟨false, was, rfl, by obtain ⟨q, aq, cq, l, x1, x2, x3, x4⟩ := HC.out; exact ⟨q, aq, cq, l, x1, x2, x3, fun h => by cases h⟩⟩
        · obtain rfl : k = n := by omega
          go_wp2_with fail
          go_meet
          case rel => exact ⟨ok, was, rfl, HC.out⟩
    case rest =>
      clear HC1
      obtain ⟨ok1, was1, rfl, hcc⟩ := hcut
      obtain ⟨U, rfl⟩ : ∃ U, U = wc := ⟨_, rfl⟩
      obtain ⟨q5, a5, c5, l, hri, hb5, hl5, hgood⟩ := hcc
      have HRI := Lib.hid hri
      have HG := Lib.hid hgood
      have cst := cell_of hri.mc 2 (v := .int .i64 st) rfl
      clear hri hgood
      go_upto_block 2 with fail
      clear cst
      go_cut [11] (fun s wx => ∃ (ok : Bool) (k : Nat), s = .bool ok ∧ (ok = true → st + k = t) ∧ Cut2 w rb G B ap st U ok1 q5 k ok wx)
      case first =>
        go_wp2_with fail
        go_loopw [16, 11] (fun i s wr => ∃ (k : Nat) (ok : Bool), i = .int .i64 ((st + k : Nat) : Int) ∧ s = .bool ok ∧ (ok1 = true → st + k ≤ t) ∧ Cut2 w rb G B ap st U ok1 q5 k ok wr) (fun i _ _ => t - (intOf i).toNat)
        case atStart => exact ⟨0, ok1, rfl, rfl, fun h => (HG.out h).1.2.1, q5, a5, c5, none, 0, [], HRI.out, hb5, hl5, Kp.refl _ _, Owns.nil _ _ _ _, rfl, (fun _ h => by cases h), fun h => ⟨h, (fun _ h => by cases h), fun h => ⟨h, by simp [rcB]⟩⟩⟩
        case round =>
          clear hb5 hl5
          obtain ⟨k, ok, rfl, rfl, hkt, hcc⟩ := hrel
          have HKT := Lib.hid hkt
          have HC := Lib.hid hcc
          clear hkt hcc
          have ht3 := HO3.out.1
          by_cases hlt : st + k < t
          · have hkI : ((st + k : Nat) : Int) < (t : Int) := by omega
            generalize hsk : ((st + k : Nat) : Int) = sk at hkI ⊢
            have HSK := Lib.hid hsk
            clear hsk
            cases ok with
            | true =>
              obtain ⟨q, aq, cq, oa, ca, rs, hri, hbq, hlq, hku, how, hrl, hrs, hgd⟩ := HC.out
              obtain ⟨hok1, h1024, hby⟩ := hgd rfl
              obtain rfl : ok1 = true := hok1
              have hhd := (HG.out rfl).1
              have hBU := HRI.out.B_
              have HR2 := Lib.hid hri
              have HOW := Lib.hid (And.intro how (And.intro hrl (And.intro hrs (And.intro h1024 (And.intro hby (And.intro hhd hku))))))
              clear hri how hrl hrs h1024 hby hgd HC hhd hku
              go_wp2_with (go_at_call 21; refine Stop.mk ?_)
              unfold Stop
              obtain ⟨d, q', hbd, hld, hdl, hob, hc⟩ := bytes_go HR2.out.rd hbq hlq
              have HBQ := Lib.hid hob
              refine hc.mono ?_
              rintro e v0 ⟨o, co, rfl, ho, a', c', hr, hk⟩
              have HR3 := Lib.hid (HR2.out.step hk hr)
              have HWU := Lib.hid (HOW.out.2.2.2.2.2.2.andThen (S := fun j => j = rb ∨ j = w.heap.size + 1 ∨ U.heap.size ≤ j) hk (fun j _ e => .inl e))
              have hrbU : rb < U.heap.size := Nat.lt_of_lt_of_le HR2.out.rB hBU
              have HW3 := Lib.hid (HOW.out.1.kp hk (fun g hg (e : g = rb) => by have := (HOW.out.1.from hg).1; omega))
              have HS3 := Lib.hid (fun r (hr : r ∈ rs) => (HOW.out.2.2.1 r hr).kp hk (fun g hg (e : g = rb) => by have := ((HOW.out.2.2.1 r hr).from hg).1; omega))
              have HD3 := Lib.hid (ho.low (B' := U.heap.size) (Nat.le_trans (HOW.out.2.2.2.2.2.2).size (Nat.le_refl _)))
              have HE := Lib.hid (err_any HR3.out.rd.blk (e := q'.e) rfl rfl)
              have HOX := Lib.hid (And.intro HOW.out.2.1 (And.intro HOW.out.2.2.2.1 (And.intro HOW.out.2.2.2.2.1 HOW.out.2.2.2.2.2.1)))
              have hkb := HOX.out.1
              have hk40 : k < 1099511627776 := by have := HOX.out.2.2.2.2.2.1; omega
              clear hc ho hr hk hbq hlq HR2 HOW hob hkb
              go_upto_region 20 with fail
              go_cut [11] (fun s wx => s = .bool (decide (q'.e = 0 ∧ d.length ≤ 1024)) ∧ wx = v0)
              case first =>
                clear HR3 HWU HW3 HS3 HD3 HOX HBQ HKT HG HRI hbd hld hdl
                generalize hqe : q'.e = qe at HE ⊢
                have HDI := Lib.hid (show d.length ≤ 1024 ↔ (d.length : Int) ≤ 1024 by omega)
                have HQE := Lib.hid hqe
                clear hqe
                by_cases f1 : qe = 0
                · subst f1
                  go_wp2_with (go_at_call 38; refine (HE.out).mono ?_; rintro e v1 ⟨rfl, hv1⟩; subst v1)
                  go_meet
                  case rel => exact ⟨congrArg Value.bool (decide_eq_decide.2 ⟨fun h => ⟨HQE.out, HDI.out.2 h⟩, fun h => HDI.out.1 h.2⟩), rfl⟩
                · have f1b : (qe == 0) = false := by simpa using f1
                  have F1 := Lib.hid f1
                  clear f1
                  go_wp2_with (go_at_call 38; refine (HE.out).mono ?_; rintro e v1 ⟨rfl, hv1⟩; subst v1)
                  go_meet
                  case rel => exact ⟨congrArg Value.bool (decide_eq_false (fun h => F1.out (HQE.out.symm.trans h.1))).symm, rfl⟩
              case rest =>
                obtain ⟨rfl, hwc⟩ := hcut
                subst wc
                clear HE
                generalize hokk : decide (q'.e = 0 ∧ d.length ≤ 1024) = okk
                have HOK := Lib.hid hokk
                clear hokk
                have c3 := cell_of HR3.out.mc 3 (v := .slice oa k ca) rfl
                have hka := (Kp.refl (fun _ => False) v0).alloc (.cells #[.slice o d.length co] 22)
                have HW4 := Lib.hid (HW3.out.kp hka (fun _ _ h => h))
                have HMC := Lib.hid (hka.heap HR3.out.mc (fun h => h))
                have hU4 := Nat.le_trans HWU.out.size hka.size
                have HKA := Lib.hid hka
                clear hka
                go_wp2_with (at_builtin; refine Stop.mk ?_)
                unfold Stop
                refine wpList_app rfl _ _ 86 rfl U.heap.size 22 info22 Tryz.underlying86 rfl (by decide) rfl HW4.out rfl (news := [.slice o d.length co]) (by simp) (Row.new (cs := #[.slice o d.length co])).news (by simp [Value.oneCell']) (by unfold maxLen; omega) (by omega) hU4 ?_
                intro a7 c7 w7 ho7 hk7
                have hne : ¬ (some (w.heap.size + 1) = blockOf oa) := fun e => by
                  have := (HW4.out.from e.symm).1
                  have := HR3.out.rb_
                  omega
                have hm7 := hk7.heap HMC.out hne
                have cc3 := cell_of hm7 3 (v := .slice oa k ca) rfl
                have ff3 := free_of hm7 3
                have HM7 := Lib.hid hm7
                have hBU2 : U.heap.size ≤ w7.heap.size := Nat.le_trans hU4 hk7.size
                have hrB := HR3.out.rB
                have hNr := HR3.out.rb_
                have hset : Kp (fun j => j = w.heap.size + 1) w7 (w7.setCell ⟨w.heap.size + 1, 3, none⟩ (.slice a7 (k + 1) c7)) := (Kp.refl (fun j => j = w.heap.size + 1) w7).setCell (p := ⟨w.heap.size + 1, 3, none⟩) (.inl rfl) _
                have hUV : Kp (fun j => j = rb ∨ j = w.heap.size + 1 ∨ U.heap.size ≤ j) U (w7.setCell ⟨w.heap.size + 1, 3, none⟩ (.slice a7 (k + 1) c7)) := ((HWU.out.andThen HKA.out (fun _ _ h => h.elim)).andThen hk7 (fun j hj e => .inr (.inr (HW4.out.from e.symm).1))).andThen hset (fun j hj e => .inr (.inl e))
                have hr7 := ((HR3.out.rd.kp HKA.out (fun h => h) (fun _ _ h => h)).kp hk7 (fun e => by have := (HW4.out.from e.symm).1; omega) (fun g hg e => by have := (HW4.out.from e.symm).1; have := (HR3.out.g_ g hg).2; have := HRI.out.B_; omega)).kp hset (by omega) (fun g hg => by have := (HR3.out.g_ g hg).1; omega)
                have hkw : Kp (fun j => w.heap.size ≤ j) w (w7.setCell ⟨w.heap.size + 1, 3, none⟩ (.slice a7 (k + 1) c7)) := HRI.out.kp.andThen hUV (fun j hj e => by have := HRI.out.kp.size; omega)
                have hrf : RI w rb G B ap st a7 (k + 1) c7 q' a' c' (w7.setCell ⟨w.heap.size + 1, 3, none⟩ (.slice a7 (k + 1) c7)) := ⟨heap_set hm7 3 _, hr7, hNr, hrB, HR3.out.g_, hkw, Nat.le_trans HRI.out.B_ hUV.size⟩
                have lift : ∀ {x : Option Addr} {m y : Nat} {xs : List Value}, Owns v0 U.heap.size 5 1 x m y xs → Owns (w7.setCell ⟨w.heap.size + 1, 3, none⟩ (.slice a7 (k + 1) c7)) U.heap.size 5 1 x m y xs := fun h =>
                  ((h.kp HKA.out (fun _ _ h => h)).kp hk7 (own_ne (by decide) (h.kp HKA.out (fun _ _ h => h)) HW4.out)).kp hset (fun g hg (e : g = w.heap.size + 1) => by have := (h.from hg).1; have := HRI.out.B_; omega)
                have hw7 : Owns (w7.setCell ⟨w.heap.size + 1, 3, none⟩ (.slice a7 (k + 1) c7)) U.heap.size 22 1 a7 (k + 1) c7 ((rs ++ [(⟨o, d, co⟩ : Pt)]).map Pt.val) := by
                  rw [List.map_append]
                  exact ho7.kp hset (fun g hg (e : g = w.heap.size + 1) => by have := (ho7.from hg).1; have := HRI.out.B_; omega)
                have hall : ∀ r ∈ rs ++ [(⟨o, d, co⟩ : Pt)], Owns (w7.setCell ⟨w.heap.size + 1, 3, none⟩ (.slice a7 (k + 1) c7)) U.heap.size 5 1 r.a r.d.length r.c (bytes r.d) := fun r hr => by
                  rw [List.mem_append, List.mem_singleton] at hr
                  rcases hr with hr | rfl
                  · exact lift (HS3.out r hr)
                  · exact lift HD3.out
                have HF := Lib.hid (And.intro hrf (And.intro hUV (And.intro hw7 hall)))
                have hk0 : (0 : Int) ≤ sk := by have := HSK.out; omega
                have ht48 : (t : Int) < 281474976710656 := by omega
                clear hrf hUV hw7 hall lift hkw hr7 hset hBU2 hrB hNr hm7 hne HM7 ho7 hk7 HKA HMC HW4 HD3 HS3 HW3 HWU HR3 hU4 hrbU hBU
                go_wp2
                go_roundw
                case rel =>
                  refine ⟨k + 1, okk, congrArg (Value.int .i64) (by have := HSK.out; omega), rfl, fun _ => by omega, q', a', c', a7, c7, rs ++ [⟨o, d, co⟩], HF.out.1, hbd, hld, HF.out.2.1, HF.out.2.2.1, by rw [List.length_append, HOX.out.1]; rfl, HF.out.2.2.2, fun hok => ⟨rfl, ?_, ?_⟩⟩
                  · have hx := of_decide_eq_true (HOK.out.trans hok)
                    intro r hr
                    rw [List.mem_append, List.mem_singleton] at hr
                    rcases hr with hr | rfl
                    · exact HOX.out.2.1 r hr
                    · exact hx.2
                  · intro he
                    obtain ⟨g0, e0⟩ := HBQ.out he
                    obtain ⟨g1, e1⟩ := HOX.out.2.2.1 g0
                    refine ⟨g1, ?_⟩
                    rw [e1, e0]
                    simp [rcB, List.append_assoc]
                case measure => simp [intOf]; omega
            | false =>
              go_wp2_with fail
              have e5 := HSK.out
              subst e5
              go_meet
              case rel => exact ⟨false, k, rfl, fun h => (by cases h), HC.out⟩
          · have hkI : ¬ (((st + k : Nat) : Int) < (t : Int)) := by omega
            generalize hsk : ((st + k : Nat) : Int) = sk at hkI ⊢
            have HSK := Lib.hid hsk
            clear hsk
            go_wp2_with fail
            have e5 := HSK.out
            subst e5
            go_meet
            case rel => exact ⟨ok, k, rfl, (fun h => by obtain ⟨q, aq, cq, oa, ca, rs, hri, hbq, hlq, hku, how, hrl, hrs, hgd⟩ := HC.out; have := HKT.out (hgd h).1; omega), HC.out⟩
      case rest =>
        obtain ⟨ok, k, rfl, hkt, hcc⟩ := hcut
        obtain ⟨q6, a6, c6, oa, ca, rs, hri, hb6, hl6, hku, how, hrl, hrs, hgd⟩ := hcc
        have HR6 := Lib.hid hri
        have HFI := Lib.hid (And.intro hkt (And.intro hku (And.intro how (And.intro hrl (And.intro hrs hgd)))))
        clear hri hkt hku how hrl hrs hgd
        cases ok with
        | false =>
          go_wp2_with fail
          exact bodyPost_ret (v := .tuple #[.pointer none, .int .i64 21]) (by simp [results, Tryz.results15, go_sem]) rfl ⟨HR6.out.kp.fin, .inl rfl⟩
        | true =>
          have hend := end_any HR6.out.rd
          by_cases e0 : q6.e = 0
          · by_cases e1 : q6.b = []
            · have HE : Hid (Calls Tryz.prog 22 #[.pointer (some ⟨rb, 0, none⟩)] wc fun e w' => e = .returned (.int .i64 0) ∧ w' = wc) := Lib.hid (by simpa [e0, e1] using hend)
              have H01 := Lib.hid (And.intro e0 e1)
              clear hend e0 e1
              go_wp2_with (go_at_call 22; refine (HE.out).mono ?_; rintro e v1 ⟨rfl, hv1⟩; subst v1)
              refine bodyPost_ret (v := .tuple #[.pointer (some ⟨w.heap.size + 1, 0, none⟩), .int .i64 0]) (by simp [results, Tryz.results15, go_sem]) rfl ⟨HR6.out.kp.fin, .inr ⟨w.heap.size + 1, w.heap.size, ap, st, l, oa, ca, rs, rfl, ?_⟩⟩
              obtain ⟨hkt, hku, how, hrl, hrs, hgd⟩ := HFI.out
              obtain ⟨hok1, h1024, hby⟩ := hgd (by trivial)
              obtain ⟨hh1, hh2, hse, hb45⟩ := HG.out hok1
              obtain ⟨g6, x6⟩ := hby H01.out.1
              obtain ⟨g5, x5⟩ := hb45 g6
              obtain ⟨g4, x4⟩ := HO4.out.2 g5
              obtain ⟨g3, x3⟩ := HO3.out.2 g4
              obtain ⟨g2, x2⟩ := HO2.out.2 g3
              obtain ⟨g1, x1⟩ := HO1.out.2 g2
              have hbb : q0.b = b := by rw [← HQ0.out]
              have hst := hkt (by trivial)
              have hbt : saveB ap st l rs = b := by
                rw [saveB, hrl, hst, hh2, ← hbb, x1, x2, x3, x4, x5, x6, H01.out.2]
                simp [nby, List.append_assoc]
              have hlen : b.length ≤ 16777216 := by rw [← hbb]; exact HL0.out
              have hrc : rs.length ≤ (rcB rs).length := rcB_ge rs
              have hrl24 : rs.length ≤ 16777216 := by
                have : (rcB rs).length ≤ b.length := by rw [← hbt, saveB, List.length_append]; omega
                omega
              have hNU : w.heap.size + 1 < U.heap.size := by have := HRI.out.B_; have := HRI.out.rb_; have := HRI.out.rB; omega
              have hse6 : Sess w B ap t l was1 wc := hse.kp hku (fun e => by have := HRI.out.rb_; omega) (fun j hj hj2 e => by have := HRI.out.rb_; have := HRI.out.rB; omega)
              refine ⟨⟨by have := HR6.out.mc; rwa [← hrl] at this, hse6.map, fun e he => (hse6.ses e he).2, ⟨how.row, fun r hr => (hrs r hr).row⟩⟩, ⟨hse.ids, fun e he => ?_, by rw [hh2]; exact hh1.2.2.2, hh1.1, by rw [hrl, hst]; exact hh1.2.2.1, hrl24, h1024⟩, hbt⟩
              have h1 := hse.sok e he
              have h2 := hh1.1
              have h3 := hh1.2.2.1
              omega
            · have e2 : ¬ q6.b.length = 0 := fun h => e1 (List.eq_nil_of_length_eq_zero h)
              have HE : Hid (Calls Tryz.prog 22 #[.pointer (some ⟨rb, 0, none⟩)] wc fun e w' => e = .returned (.int .i64 21) ∧ w' = wc) := Lib.hid (by simpa [e0, e2, e1] using hend)
              clear hend e0 e1 e2
              go_wp2_with (go_at_call 22; refine (HE.out).mono ?_; rintro e v1 ⟨rfl, hv1⟩; subst v1)
              exact bodyPost_ret (v := .tuple #[.pointer none, .int .i64 21]) (by simp [results, Tryz.results15, go_sem]) rfl ⟨HR6.out.kp.fin, .inl rfl⟩
          · have HE : Hid (Calls Tryz.prog 22 #[.pointer (some ⟨rb, 0, none⟩)] wc fun e w' => e = .returned (.int .i64 q6.e) ∧ w' = wc) := Lib.hid (by simpa [e0] using hend)
            clear hend
            generalize q6.e = qe at HE e0
            have f1b : (qe != 0) = true := by simpa using e0
            have E0 := Lib.hid e0
            clear e0
            go_wp2_with (go_at_call 22; refine (HE.out).mono ?_; rintro e v1 ⟨rfl, hv1⟩; subst v1)
            exact bodyPost_ret (v := .tuple #[.pointer none, .int .i64 21]) (by simp [results, Tryz.results15, go_sem]) rfl ⟨HR6.out.kp.fin, .inl rfl⟩
end Go.Proofs.YtecohkoekifeiaaGreatDoor
