/-
  ReadsOnce: for every leader, every list of calls and every list of servers the law returns true and leaves its arguments as they were. No condition.
-/
import Derived.Test.YtdkgbjbfmempdaaOnp
import Derived.Test.YtdkgbjbfmempdaaOpl
import Derived.Deep.DeepCutAuto
namespace Go.Proofs.Ytdkgbjbfmempdaa.readsOnce
open Go.ChangeShapes Go.WideShapes Go.ChangeAt Go.RowKit Go.Deep
set_option linter.unusedVariables false

theorem zeroInt (w : World) : (zeroValue 3).run Try.prog w = .ok (.int .i64 0) w := by kernel_rfl
/-- Ready, by a list that lies below the book: what it touches. -/
theorem ready_foot {w : World} {B b : Nat} {me : Int} {l : List Rd} {h : Nat → Int} {a : Option Addr} {cap : Nat} (hb : Book w B b me l h a cap) (hl : l.length ≤ 1000) {W : World} (hB : W.heap.size = B) {y : Option Addr} {zs : List Int} (hY : Ints W y zs) (hk : Kp (fun j => B ≤ j) W w) (my : zs.length ≤ 17592186043904) (cy : Nat) :
    Calls Try.prog 13 #[.pointer (some ⟨b, 0, none⟩), .slice y zs.length cy] w fun e w' => ∃ o co, e = .returned (.slice o (toldAll (fun r => won zs (yes me h r.rd)) l).length co) ∧ Answers w' o (toldAll (fun r => won zs (yes me h r.rd)) l) ∧ (∀ g, blockOf o = some g → w.heap.size ≤ g) ∧
      Book w' B b me (keep (fun r => won zs (yes me h r.rd)) l) h a cap ∧ Kp (Foot b a) w w' := by
  have hI : Ints w y zs := by
    intro i hi
    obtain ⟨g, off, hy, hc⟩ := hY i hi
    have hg := World.block_lt_of_cell? W _ hc
    exact ⟨g, off, hy, (hk.cell (p := ⟨g, off + i, none⟩) hg (by show ¬ B ≤ g; rw [← hB]; exact Nat.not_le.2 hg)).trans hc⟩
  refine Calls.mono (ready_any hb hl hI (fun hz g hg e => ?_) (by omega) cy) ?_
  · have h0 : 0 < zs.length := by cases zs with | nil => exact absurd rfl hz | cons _ _ => simp
    obtain ⟨g', off, hy, hc⟩ := hY 0 h0
    have hlt : g' < W.heap.size := World.block_lt_of_cell? W _ hc
    rw [hy] at hg
    cases hg
    have : B ≤ g' := (hb.own.from e).1
    omega
  · rintro e w' ⟨o, co, he, ho, hb', hk'⟩
    exact ⟨o, co, he, ho.answers, fun g hg => (ho.from hg).1, hb', hk'⟩

/-- What the law knows in every round: the book, its two maps. -/
structure Inv (W w : World) (B b G k : Nat) (M : Int) (l : List Rd) (h : Nat → Int) (a : Option Addr) (cap : Nat) (m : List (Int × Value)) : Prop where
  book : Book w B b M l h a cap
  up : Up l k
  im : IMap w G (pairs l)
  rm : IMap w (G + 1) m
  rd : ∀ r ∈ l, getm m r.id = some (.int .i64 r.rd) ∧ 0 ≤ r.rd
  n1 : ¬ Foot b a G
  n2 : ¬ Foot b a (G + 1)
  ge : B ≤ G
  kp : Kp (fun j => B ≤ j) W w
theorem Inv.no {W w w' : World} {B b G k : Nat} {M : Int} {l : List Rd} {h : Nat → Int} {a : Option Addr} {cap : Nat} {m : List (Int × Value)} (i : Inv W w B b G k M l h a cap m) (hk : Kp (fun _ => False) w w') : Inv W w' B b G k M l h a cap m :=
  ⟨i.book.no hk, i.up, i.im.kp hk (fun h => h), i.rm.kp hk (fun h => h), i.rd, i.n1, i.n2, i.ge, i.kp.trans hk.no⟩
theorem Inv.next {W w : World} {B b G k : Nat} {M : Int} {l : List Rd} {h : Nat → Int} {a : Option Addr} {cap : Nat} {m : List (Int × Value)} (i : Inv W w B b G k M l h a cap m) : Inv W w B b G (k + 1) M l h a cap m :=
  ⟨i.book, i.up.mono (by omega), i.im, i.rm, i.rd, i.n1, i.n2, i.ge, i.kp⟩
theorem Inv.heard {W w w' : World} {B b G k : Nat} {M : Int} {l : List Rd} {h h' : Nat → Int} {a : Option Addr} {cap : Nat} {m : List (Int × Value)} (i : Inv W w B b G k M l h a cap m) (hb : Book w' B b M l h' a cap) (hk : Kp (Foot b a) w w') : Inv W w' B b G k M l h' a cap m :=
  ⟨hb, i.up, i.im.kp hk i.n1, i.rm.kp hk i.n2, i.rd, i.n1, i.n2, i.ge, i.kp.trans (i.book.kpB hk)⟩
/-- Behind Ask and the two stores. -/
theorem Inv.asked {W w w3 w4 w5 : World} {B b G k : Nat} {M : Int} {l : List Rd} {h : Nat → Int} {a a' : Option Addr} {cap cap' : Nat} {m : List (Int × Value)} (i : Inv W w B b G k M l h a cap m) (hk9 : k < 90) {ix rd : Int} (h1 : 0 ≤ ix) (h2 : 0 ≤ rd)
    (hb : Book w3 B b M (l ++ [⟨k, ix, rd⟩]) h a' cap') (hk : Kp (Foot b a) w w3) (hm : Moved w a a') (e4 : IMap w4 G (putm (pairs l) k (.int .i64 ix))) (k4 : Kp (fun j => j = G) w3 w4)
    (e5 : IMap w5 (G + 1) (putm m k (.int .i64 rd))) (k5 : Kp (fun j => j = G + 1) w4 w5) : Inv W w5 B b G (k + 1) M (l ++ [⟨k, ix, rd⟩]) h a' cap' (putm m k (.int .i64 rd)) := by
  have n1 := hm.foot i.n1 i.im.lt
  have n2 := hm.foot i.n2 i.rm.lt
  have hnk : (k : Int) ∉ ids l := fun e => by have := i.up.lt _ e; omega
  have ege := i.ge
  have b4 := hb.kp k4 (fun e => n1 (Or.inl e.symm)) (fun g hg e => n1 (Or.inr (e ▸ hg.symm)))
  refine ⟨b4.kp k5 (fun e => n2 (Or.inl e.symm)) (fun g hg e => n2 (Or.inr (e ▸ hg.symm))), (i.up.ask hk9 ix rd h1 h2).2, ?_, e5, ?_, n1, n2, ege, ?_⟩
  · rw [← pairs_snoc l ⟨k, ix, rd⟩ hnk]
    exact e4.kp k5 (by omega)
  · intro r hr
    rw [getm_putm]
    rcases List.mem_append.1 hr with hr | hr
    · rw [if_neg (fun e : r.id = k => hnk (List.mem_map.2 ⟨r, hr, e⟩))]
      exact i.rd r hr
    · simp at hr
      subst hr
      rw [if_pos rfl]
      exact ⟨rfl, h2⟩
  · exact ((i.kp.trans (i.book.kpB hk)).trans (k4.mono (fun j _ e => by omega))).trans (k5.mono (fun j _ e => by omega))

set_option maxRecDepth 100000 in
set_option maxHeartbeats 4000000 in
theorem walk (me : Int) (x : Option Addr) (n cx : Nat) (O : Nat → OpE) (y : Option Addr) (zs : List Int) (cy : Nat) (W : World) (hO : Ops W x n O) (mx : n ≤ maxLen) (hY : Ints W y zs) (my : zs.length ≤ 17592186043904) :
    Calls Try.prog 3 #[.int .i64 me, .slice x n cx, .slice y zs.length cy] W fun e w' => e = .returned (.bool true) ∧ Below W.heap.size W w' := by
  unfold maxLen at mx
  have HO := Lib.hid hO
  have HY := Lib.hid hY
  have HMY := Lib.hid my
  clear hO hY my
  have hmm := @run_makeMap Try.prog
  have w16 := md_in me 16 (by omega) (by omega)
  go_enter Try.func3, Try.ntmps3
  go_wp2_with fail
  refine (new_md W me 16 (by omega) (by omega)).mono ?_
  rintro e w1 ⟨b, rfl, hb, hk1⟩
  obtain ⟨B, hB⟩ : ∃ B, B = W.heap.size := ⟨_, rfl⟩
  obtain ⟨M, hM⟩ : ∃ M, M = md me 16 := ⟨_, rfl⟩
  rw [← hB, ← hM] at hb
  have HB := Lib.hid hB
  clear hB hM w16
  have hK1 : Kp (fun j => B ≤ j) W w1 := hk1.no
  clear hk1
  go_wp2_with (first | (go_at_call 9; refine (num_any _ _).mono ?_; rintro e w' ⟨rfl, rfl⟩) | (go_at_call 10; refine (knows_any _).mono ?_; rintro e w2 ⟨rfl, hk2⟩))
  have hb2 := hb.no hk2
  have hK2 := hK1.trans hk2.no
  have hinv : Inv W ((w2.alloc (.map #[] 0)).alloc (.map #[] 0)) B b w2.heap.size 0 M [] mute none 0 [] := by
    have hka : Kp (fun _ => False) w2 ((w2.alloc (.map #[] 0)).alloc (.map #[] 0)) := ((Kp.refl _ _).alloc _).alloc _
    have e1 := imap_made (w2.alloc (.map #[] 0))
    have e2 : IMap ((w2.alloc (.map #[] 0)).alloc (.map #[] 0)) w2.heap.size [] := (imap_made w2).kp (S := fun _ => False) ((Kp.refl _ _).alloc _) (fun h => h)
    have hs : (w2.alloc (.map #[] 0)).heap.size = w2.heap.size + 1 := by simp
    rw [hs] at e1
    refine ⟨hb2.no hka, up_nil, e2, e1, by simp, fun h => absurd (hb2.foot h).2 (by omega), fun h => absurd (hb2.foot h).2 (by omega), by have := hK2.size; have := HB.out; omega, hK2.trans hka.no⟩
  have HI := Lib.hid hinv
  clear hinv hb hb2 hK1 hK2 hk2
  go_loopw [11] (fun q wr => ∃ (k : Nat) (l : List Rd) (h : Nat → Int) (a : Option Addr) (cap : Nat) (m : List (Int × Value)), q = .int .i64 k ∧ k ≤ n ∧ k ≤ 90 ∧ Inv W wr B b w2.heap.size k M l h a cap m) (fun q _ => n - (intOf q).toNat)
  case atStart => exact ⟨0, _, _, _, _, _, rfl, Nat.zero_le _, by omega, HI.out⟩
  case round =>
    clear HI
    generalize w2.heap.size = G at hrel ⊢
    obtain ⟨k, l, h, a, cap, m, rfl, hk, hk9, hI⟩ := hrel
    by_cases hlt : k < n ∧ k < 90
    · obtain ⟨ba, oa, hlba, rfl, ⟨e0, e1, e2, e3, e4⟩, _⟩ := HO.out.kp (HB.out ▸ hI.kp) hlt.1
      obtain ⟨hlt, hl9⟩ := hlt
      generalize O k = oe at e0 e1 e2 e3 e4
      obtain ⟨ko, A, C, D, xo, zo, co⟩ := oe
      have hkI : (k : Int) < (n : Int) := by omega
      have hk0 : (0 : Int) ≤ (k : Int) := by omega
      have hk9I : (k : Int) < 90 := by omega
      go_upto_region 11 with fail
      have hX : (wr.alloc (.cells #[.int .i64 ko, .int .i64 A, .int .i64 C, .int .i64 D, .slice xo zo.length co] 32)).heap[wr.heap.size]? = some (.cells #[.int .i64 ko, .int .i64 A, .int .i64 C, .int .i64 D, .slice xo zo.length co] 32 (0, 0)) := heap_new wr _
      have hI2 : Inv W (wr.alloc (.cells #[.int .i64 ko, .int .i64 A, .int .i64 C, .int .i64 D, .slice xo zo.length co] 32)) B b G k M l h a cap m := hI.no ((Kp.refl _ _).alloc _)
      have hFX : ¬ Foot b a wr.heap.size := fun h => absurd (hI.book.foot h).2 (Nat.lt_irrefl _)
      have hGX : G + 1 < wr.heap.size := hI.rm.lt
      generalize wr.alloc (.cells #[.int .i64 ko, .int .i64 A, .int .i64 C, .int .i64 D, .slice xo zo.length co] 32) = wo at hX hI2 ⊢
      generalize wr.heap.size = X at hX hFX hGX ⊢
      have HI2 := Lib.hid hI2
      have hup := hI2.up
      clear hI hI2 e0 e1 e2 e3 e4
      have c0 : wo.cell? ⟨X, 0, none⟩ = some (.int .i64 ko) := cell_of hX 0 rfl
      have c1 : wo.cell? ⟨X, 1, none⟩ = some (.int .i64 A) := cell_of hX 1 rfl
      have c2 : wo.cell? ⟨X, 2, none⟩ = some (.int .i64 C) := cell_of hX 2 rfl
      have c3 : wo.cell? ⟨X, 3, none⟩ = some (.int .i64 D) := cell_of hX 3 rfl
      by_cases k0 : ko = 0
      · subst k0
        have w9 := md_in C 100 (by omega) (by omega)
        have w9' := md_in D 20 (by omega) (by omega)
        have HUP := Lib.hid hup
        clear hup
        go_wp2_with fail
        refine (ask_up HI2.out.book HUP.out hl9 C D 100 20 (by omega) (by omega)).mono ?_
        rintro e w3 ⟨rfl, a', cap', hb3, hk3, hm3⟩
        have hX3 := hk3.heap hX hFX
        have c2 : w3.cell? ⟨X, 2, none⟩ = some (.int .i64 C) := cell_of hX3 2 rfl
        have i3 := HI2.out.im.kp hk3 HI2.out.n1
        have HB3 := Lib.hid hb3
        have HK3 := Lib.hid hk3
        have HM3 := Lib.hid hm3
        have HX3 := Lib.hid hX3
        clear hX hX3 hb3 hk3 hm3 c0 c1 c3
        go_wp2_with (first | (go_at_call 9; refine (num_any _ _).mono ?_; rintro e w' ⟨rfl, rfl⟩) | (at_mapUpdate; refine Stop.mk ?_))
        unfold Stop
        refine wpList_update_i Try.underlying30 Try.underlying3 rfl _ _ _ rfl rfl i3 rfl rfl ?_
        intro w4 e4 k4
        have hX4 := k4.heap HX3.out (by omega)
        have c3 : w4.cell? ⟨X, 3, none⟩ = some (.int .i64 D) := cell_of hX4 3 rfl
        have i4 := (HI2.out.rm.kp HK3.out HI2.out.n2).kp k4 (by omega)
        have E4 := Lib.hid e4
        have K4 := Lib.hid k4
        clear hX4 e4 k4 i3 c2 HX3
        go_wp2_with (at_mapUpdate; refine Stop.mk ?_)
        unfold Stop
        refine wpList_update_i Try.underlying30 Try.underlying3 rfl _ _ _ rfl rfl i4 rfl rfl ?_
        intro w5 e5 k5
        have hI5 := HI2.out.asked hl9 (md_lo C 100 (by omega)) (md_lo D 20 (by omega)) HB3.out HK3.out HM3.out E4.out K4.out e5 k5
        have HI5 := Lib.hid hI5
        clear e5 k5 i4 c3 hI5 HB3 HK3 HM3 E4 K4 w9 w9' HI2
        go_wp2_with fail
        go_roundw
        case rel => exact ⟨k + 1, _, _, _, _, _, by go_num, by omega, by omega, HI5.out⟩
        case measure => simp [intOf]; omega
      · have f0 : (ko == 0) = false := by simpa using k0
        by_cases k1 : ko = 1
        · subst k1
          have w9 := md_in A 16 (by omega) (by omega)
          have w9' := md_in C 20 (by omega) (by omega)
          go_wp2_with fail
          refine (heard_md HI2.out.book A C 20 (by omega)).mono ?_
          rintro e w3 ⟨rfl, hb3, hk3⟩
          have HI3 := Lib.hid (HI2.out.heard hb3 hk3).next
          clear hX hb3 hk3 hup c0 c1 c2 c3 w9 w9' HI2
          go_wp2_with fail
          go_roundw
          case rel => exact ⟨k + 1, _, _, _, _, _, by go_num, by omega, by omega, HI3.out⟩
          case measure => simp [intOf]; omega
        · have f1 : (ko == 1) = false := by simpa using k1
          by_cases k2 : ko = 2
          · subst k2
            go_wp2_with fail
            refine (ready_foot HI2.out.book (by have := HI2.out.up.le; omega) HB.out.symm HY.out HI2.out.kp HMY.out cy).mono ?_
            rintro e w3 ⟨o3, co3, rfl, ha3, hn3, hb3, hk3⟩
            obtain ⟨N, q, P, R, hTN, hNk, hTq, hP0, hPN, hR0, hRs, hq, hw⟩ := ready_facts HI2.out.up HI2.out.rd zs M h
            have hu3 := hup.keep (fun r => won zs (yes M h r.rd))
            have hl3 := hup.le
            have hkp : ∀ r ∈ keep (fun r => won zs (yes M h r.rd)) l, 0 ≤ r.rd := fun r hr => (HI2.out.rd r (List.mem_filter.1 hr).1).2
            generalize toldAll (fun r => won zs (yes M h r.rd)) l = T at ha3 hTN hTq ⊢
            generalize keep (fun r => won zs (yes M h r.rd)) l = L at hb3 hu3 hPN hw hkp ⊢
            have im3 := HI2.out.im.kp hk3 HI2.out.n1
            have rm3 := HI2.out.rm.kp hk3 HI2.out.n2
            have kp3 := HI2.out.kp.trans (HI2.out.book.kpB hk3)
            have hoG : ∀ g, blockOf o3 = some g → ¬ g = G := fun g hg e => by have := hn3 g hg; have := HI2.out.rm.lt; omega
            rw [← hP0] at im3
            rw [hTN]
            have HA := Lib.hid ha3
            have HKP := Lib.hid hkp
            have HOG := Lib.hid hoG
            have HTN := Lib.hid hTN
            have HTQ := Lib.hid hTq
            have HPN := Lib.hid hPN
            have HRS := Lib.hid hRs
            have HQ := Lib.hid hq
            have HW := Lib.hid hw
            have HB3 := Lib.hid hb3
            have HU3 := Lib.hid hu3
            have HRM := Lib.hid rm3
            have HK3 := Lib.hid kp3
            have HR0 := Lib.hid hR0
            clear ha3 hkp hoG hTN hTq hP0 hPN hR0 hRs hq hw hb3 hu3 rm3 kp3 hn3 hk3 hup hX c0 c1 c2 c3 k0 k1 f0 f1
            go_wp2_with fail
            go_loopw [15, 16] (fun v15 v16 wr => ∃ (j : Nat), v16 = .int .i64 j ∧ v15 = .int .i64 (R j) ∧ j ≤ N ∧ IMap wr G (P j) ∧ Kp (fun i => i = G) w3 wr) (fun _ v _ => N - (intOf v).toNat)
            case atStart => exact ⟨0, rfl, by rw [HR0.out], Nat.zero_le _, im3, Kp.refl _ _⟩
            case round =>
              clear im3
              obtain ⟨j, rfl, rfl, hj, hm1, hkw⟩ := hrel
              by_cases hjt : j < N
              · obtain ⟨g, rfl, d1, d2⟩ := (HA.out.kp hkw HOG.out) j (by rw [HTN.out]; exact hjt)
                rw [HTQ.out j hjt] at d1 d2
                have hm2 := HRM.out.kp hkw (by omega)
                obtain ⟨g1, g2, g3⟩ := HQ.out j hjt
                have hRj := HRS.out j
                generalize R j = Rj at hRj ⊢
                generalize q j = qj at d1 d2 g1 g2 g3 hRj
                obtain ⟨qi, qx, qr⟩ := qj
                try simp only at d1 d2 g1 g2 g3 hRj
                have hjI : (j : Int) < (N : Int) := by omega
                have hj0 : (0 : Int) ≤ (j : Int) := by omega
                have HG2 := Lib.hid g2
                have hv1 : (getm (P j) qi).getD (.int .i64 0) = .int .i64 qx := by rw [g1]; rfl
                have hs1 : (getm (P j) qi).isSome = true := by rw [g1]; rfl
                have hv2 : (getm m qi).getD (.int .i64 0) = .int .i64 qr := by rw [g3]; rfl
                have HV1 := Lib.hid hv1
                have HS1 := Lib.hid hs1
                have HV2 := Lib.hid hv2
                have HR := Lib.hid hRj
                have HM1 := Lib.hid hm1
                have HM2 := Lib.hid hm2
                clear g1 g2 g3 hv1 hs1 hv2 hRj hm1 hm2
                go_wp2_with (at_lookup; refine Stop.mk ?_)
                unfold Stop
                refine wpList_lookup2_i Try.underlying30 Try.underlying3 rfl _ _ rfl rfl HM1.out zeroInt rfl HV1.out HS1.out ?_
                go_wp2_with (at_lookup; refine Stop.mk ?_)
                unfold Stop
                refine wpList_lookup_i Try.underlying30 Try.underlying3 rfl _ _ rfl rfl HM2.out zeroInt rfl HV2.out ?_
                obtain ⟨w6, hrun6, h6, hk6⟩ := run_delete_i (P := Try.prog) Try.underlying30 Try.underlying3 HM1.out qi 0 3
                rw [HG2.out] at h6
                have HM6 := Lib.hid h6
                clear h6
                go_wp2_with fail
                go_roundw
                case rel => exact ⟨j + 1, by go_num, by rw [HR.out]; congr 1; split <;> omega, by omega, HM6.out, hkw.trans hk6⟩
                case measure => simp [intOf]; omega
              · obtain rfl : j = N := by omega
                have i4 : Inv W wr B b G (k + 1) M L h a cap m := by
                  refine ⟨HB3.out.kp hkw (fun e => HI2.out.n1 (Or.inl e.symm)) (fun g hg e => HI2.out.n1 (Or.inr (e ▸ hg.symm))), HU3.out.mono (by omega), HPN.out ▸ hm1, HRM.out.kp hkw (by omega), fun r hr => ⟨(HW.out r hr).2, ?_⟩, HI2.out.n1, HI2.out.n2, HI2.out.ge, HK3.out.trans (hkw.mono (fun i _ e => by have := HI2.out.ge; omega))⟩
                  exact (HKP.out r hr)
                have hw2 : ∀ r ∈ L, R j < r.rd ∧ getm m r.id = some (.int .i64 r.rd) := HW.out
                have hl4 : L.length ≤ 1000 := by have := HU3.out.le; omega
                have HI4 := Lib.hid i4
                have HW2 := Lib.hid hw2
                generalize R j = mo at HW2 ⊢
                clear i4 hw2 hm1 hkw HI2 HA HTN HTQ HPN HRS HQ HW HB3 HU3 HRM HK3 HR0 HOG hjt
                go_wp2_with fail
                refine (waiting_any HI4.out.book hl4).mono ?_
                rintro e w5 ⟨o5, co5, rfl, ho5, hk5⟩
                have HI5 := Lib.hid (HI4.out.no hk5)
                have HZ := Lib.hid ho5.ints
                clear ho5 hk5 HI4
                go_wp2_with fail
                go_loopw [20] (fun v wr => ∃ (i : Nat), v = .int .i64 i ∧ i ≤ L.length ∧ Kp (fun _ => False) w5 wr) (fun v _ => L.length - (intOf v).toNat)
                case atStart => exact ⟨0, rfl, Nat.zero_le _, Kp.refl _ _⟩
                case round =>
                  obtain ⟨i, rfl, hi, hk6⟩ := hrel
                  by_cases hit : i < L.length
                  · obtain ⟨g, og, rfl, d1⟩ := (HZ.out.kp hk6 (fun _ _ h => h)).at (show i < (ids L).length by rw [ids_length]; exact hit)
                    have hg : (ids L).getD i 0 = (L[i]).id := by simp [ids, List.getD, List.getElem?_eq_getElem hit]
                    rw [hg] at d1
                    obtain ⟨h7, h8⟩ := HW2.out L[i] (List.getElem_mem hit)
                    generalize L[i] = r at d1 h7 h8
                    obtain ⟨ri, rx, rr⟩ := r
                    try simp only at d1 h7 h8
                    have hv3 : (getm m ri).getD (.int .i64 0) = .int .i64 rr := by rw [h8]; rfl
                    have hle : decide (rr ≤ mo) = false := decide_eq_false (by omega)
                    have HV3 := Lib.hid hv3
                    have hiI : (i : Int) < (L.length : Int) := by omega
                    have hi0 : (0 : Int) ≤ (i : Int) := by omega
                    have rm6 := HI5.out.rm.kp hk6 (fun h => h)
                    clear h7 h8 hv3 hg
                    go_wp2_with (at_lookup; refine Stop.mk ?_)
                    unfold Stop
                    refine wpList_lookup_i Try.underlying30 Try.underlying3 rfl _ _ rfl rfl rm6 zeroInt rfl HV3.out ?_
                    clear rm6
                    go_wp2_with fail
                    go_roundw
                    case rel => first | exact ⟨i + 1, by go_num, by omega, hk6⟩ | ((repeat apply Exists.intro); exact ⟨⟨i + 1, by go_num, by omega, hk6⟩, rfl⟩)
                    case measure => simp [intOf]; omega
                  · go_wp2_with fail
                    go_roundw
                    case rel => exact ⟨k + 1, _, _, _, _, _, by go_num, by omega, by omega, HI5.out.no hk6⟩
                    case measure => simp [intOf]; omega
          · have f2 : (ko == 2) = false := by simpa using k2
            clear k0 k1 k2 hup
            go_wp2_with fail
            go_roundw
            case rel => exact ⟨k + 1, _, _, _, _, _, by go_num, by omega, by omega, HI2.out.next⟩
            case measure => simp [intOf]; omega
    · have hl1 : l.length ≤ 1000 := by have := hI.up.le; omega
      have HI3 := Lib.hid hI
      clear hI
      by_cases hn : k < n
      · obtain rfl : k = 90 := by omega
        have hnI : (90 : Int) < (n : Int) := by omega
        clear hlt hk hk9
        go_wp2_with fail
        refine (waiting_any HI3.out.book hl1).mono ?_
        rintro e w3 ⟨o3, co3, rfl, ho3, hk3⟩
        have im3 := HI3.out.im.kp hk3 (fun h => h)
        have hK3 := HI3.out.kp.trans hk3.no
        have hlen := run_len_i (P := Try.prog) Try.underlying30 im3 3
        rw [pairs_length] at hlen
        clear ho3 hk3 HI3 im3
        go_wp2_with fail
        go_ret
        exact ⟨rfl, (HB.out ▸ hK3).belowW⟩
      · obtain rfl : k = n := by omega
        clear hlt hk hn
        go_wp2_with fail
        refine (waiting_any HI3.out.book hl1).mono ?_
        rintro e w3 ⟨o3, co3, rfl, ho3, hk3⟩
        have im3 := HI3.out.im.kp hk3 (fun h => h)
        have hK3 := HI3.out.kp.trans hk3.no
        have hlen := run_len_i (P := Try.prog) Try.underlying30 im3 3
        rw [pairs_length] at hlen
        clear ho3 hk3 HI3 im3
        go_wp2_with fail
        go_ret
        exact ⟨rfl, (HB.out ▸ hK3).belowW⟩

set_option maxRecDepth 100000 in
theorem lifted (os : Os) (started : os.Started) (H : Type) (enc : TypeId × Value → H) :
    ReturnsInHanded {} Try.checked os 3 .any (Rows.readsOnceSpec.pre6 enc Try.prog Try.f3 Rows.readsOnceRow.domain false) (Rows.readsOnceSpec.post enc Try.prog Try.f3 false true false false) := by
  refine returnsInHanded_of_change_sized (C := Try.checked) own started (by kernel_rfl) Try.func3
    (ChangeSpec.witness6 (enc := enc) (C := Try.checked) false ⟨#[], #[.int .i64 0, .slice none 0 0, .slice none 0 0], []⟩ 8 (by kernel_rfl) (by kernel_rfl) (by kernel_rfl) (by kernel_rfl)) ?_
  intro W base args ds gs before hval0 hW _ hsz _
  have hval : ∀ (j : Nat) t v, Try.f3.params[j]? = some t → args[j]? = some v → Value.okWide Try.prog W .any base t v := hval0
  have hW' := hW
  obtain ⟨p, q, hA0, hV, rfl, hfz, hnd⟩ := hW
  have hA : DataW.TrodAll enc Try.prog W 0 (fun _ => true) true Try.f3.params.toList args.toList ds p := hA0
  rw [Try.params3] at hA hval
  obtain ⟨v0, vs0, d0, ds0, p0, q0, hargs, rfl, rfl, h0, r0⟩ := trodAll_cons hA
  obtain ⟨v1, vs1, d1, ds1, p1, q1, rfl, rfl, rfl, h1, r1⟩ := trodAll_cons r0
  obtain ⟨v2, vs2, d2, ds2, p2, q2, rfl, rfl, rfl, h2, r2⟩ := trodAll_cons r1
  obtain ⟨rfl, rfl, rfl⟩ := trodAll_nil r2
  obtain rfl : args = #[v0, v1, v2] := by cases args; simp_all
  obtain ⟨rfl, rfl⟩ := trodVars_none hV
  obtain ⟨a0, rfl, rfl, _, w0⟩ := open_int Try.underlying3 (hval 0 3 v0 rfl rfl) h0
  have o1 := hval 1 22 v1 rfl rfl
  have o2 := hval 2 23 v2 rfl rfl
  obtain ⟨x, n, cx, O, rfl, hO, mx⟩ := open_ops o1 h1
  obtain ⟨y, zs, cy, rfl, hY, hZ⟩ := open_il o2 h2
  have my := il_le hsz (j := 2) rfl rfl hZ
  refine (walk a0 x n cx O y zs cy W hO mx hY my).mono fun e W' ⟨he, hg⟩ => ?_
  subst he
  exact ⟨_, rfl, law_post laidOut (of_decide_eq_true (by kernel_rfl)) rfl Try.underlying4 rfl ⟨rfl, rfl, rfl⟩ hW' hg⟩

theorem over : Rows.readsOnceRow.holds Try.pinned (OpenSpec.ofChange Rows.readsOnceSpec) :=
  OpenClaim.holds_of_wide 3 Try.f3 rfl rfl rfl rfl rfl rfl rfl ⟨rfl, rfl, rfl, rfl, rfl⟩ rfl rfl rfl rfl rfl (by kernel_rfl) Try.func3 (by kernel_rfl)
    (of_decide_eq_true (by kernel_rfl)) (by unfold Func.isWrapper; first | (rw [if_pos (by decide +kernel)]; kernel_rfl) | (rw [if_neg (by decide +kernel)]; exact ⟨rfl, rfl⟩))
    (fun os started H enc _ => lifted os started H enc)

theorem proved : Rows.ReadsOnceSaid :=
  over
#print axioms proved
end Go.Proofs.Ytdkgbjbfmempdaa.readsOnce
