/-
  The document's Clear, Ask, and its lists' equality tests, each walked once. No condition.
-/
import Derived.Test.YtdkgbjbfmempdaaRb
namespace Go.Proofs.Ytdkgbjbfmempdaa
open Go.ChangeShapes Go.WideShapes Go.ChangeAt Go.RowKit Go.Deep
set_option linter.unusedVariables false

set_option maxHeartbeats 4000000 in
theorem rclear_any {w : World} {B b : Nat} {me : Int} {l : List Rd} {h : Nat → Int} {a : Option Addr} {cap : Nat} (hb : RBook w B b me l h a cap) (hl : l.length ≤ 1000) :
    Calls Try.prog 31 #[.pointer (some ⟨b, 0, none⟩)] w fun e w' => ∃ o co, e = .returned (.slice o l.length co) ∧ Owns w' w.heap.size 3 1 o l.length co ((ids l).map (Value.int .i64)) ∧ RBook w' B b me [] mute none 0 ∧ Kp (Foot b a) w w' := by
  have HW := Lib.hid (rwaiting_any hb hl)
  have HB := Lib.hid hb
  clear hb
  go_enter Try.func31, Try.ntmps31
  go_wp2_with (first | (go_at_call 32; refine HW.out.mono ?_; rintro e w2 ⟨o, co, rfl, ho, hk⟩; have f1 := free_of (HB.out.no hk).blk 1; have c1 := cell_of (HB.out.no hk).blk 1 (v := .slice a l.length cap) rfl) | (go_at_call 26; refine (forget_any (me := me) (lv := .slice none 0 0) (h := h) (heap_set (HB.out.no hk).blk 1 (.slice none 0 0))).mono ?_; rintro e w3 ⟨rfl, hb3, hk3⟩))
  go_ret
  have hbl := lt_of_block HB.out.blk
  have hK : Kp (fun k => k = b) w2 w3 := ((Kp.refl (fun k => k = b) _).setCell (p := ⟨b, 1, none⟩) (Or.inl rfl) _).andThen hk3 (fun _ _ h => h)
  exact ⟨o, co, rfl, ho.kp hK (fun g hg e => by have := Owns.from ho hg; omega), ⟨hb3, Owns.nil _ _ _ _, HB.out.ge⟩, (hk.mono (S' := Foot b a) (fun _ _ h => h.elim)).andThen hK (fun i hi e => Or.inl e)⟩

theorem RBook.asked {w w4 : World} {B b : Nat} {me : Int} {l : List Rd} {h : Nat → Int} {a a' : Option Addr} {cap cap' : Nat} (k : RBook w B b me l h a cap) {x : Rd} (hk : Kp (fun k => some k = blockOf a) w w4) (ho : Owns w4 B 74 3 a' (l.length + 1) cap' (flat l ++ flat [x])) :
    RBook (w4.setCell ⟨b, 1, none⟩ (.slice a' (l.length + 1) cap')) B b me (l ++ [x]) h a' cap' ∧ Kp (Foot b a) w (w4.setCell ⟨b, 1, none⟩ (.slice a' (l.length + 1) cap')) := by
  have hh := hk.heap k.blk (fun e => k.ne e.symm)
  have hs : Kp (fun k => k = b) w4 (w4.setCell ⟨b, 1, none⟩ (.slice a' (l.length + 1) cap')) := (Kp.refl (fun k => k = b) _).setCell (p := ⟨b, 1, none⟩) (Or.inl rfl) _
  have hne : blockOf a' ≠ some b := by
    intro e
    obtain ⟨cur, hc⟩ := ho.type e
    have := hh.symm.trans hc
    cases this
  refine ⟨⟨?_, ?_, k.ge⟩, (hk.mono (S' := Foot b a) (fun _ _ h => Or.inr h)).andThen hs (fun i hi e => Or.inl e)⟩
  · have := heap_set hh 1 (.slice a' (l.length + 1) cap')
    rw [rbCells_list] at this
    simpa using this
  · rw [flat_append]
    simpa using ho.kp hs (fun g hg e => hne (e ▸ hg))

set_option maxHeartbeats 4000000 in
theorem rask_any {w : World} {B b : Nat} {me : Int} {l : List Rd} {h : Nat → Int} {a : Option Addr} {cap : Nat} (hb : RBook w B b me l h a cap) (hl : l.length ≤ 1000) (id ix rd : Int) :
    Calls Try.prog 27 #[.pointer (some ⟨b, 0, none⟩), .int .i64 id, .int .i64 ix, .int .i64 rd] w fun e w' => ∃ a' cap', e = .returned (.int .i64 (ask l id ix rd).1) ∧ RBook w' B b me (ask l id ix rd).2 h a' cap' ∧ Kp (Foot b a) w w' ∧ Moved w a a' := by
  have HB := Lib.hid hb
  have HR := Lib.hid hb.own.reads
  have c1 := cell_of hb.blk 1 (v := .slice a l.length cap) rfl
  have f1 := free_of hb.blk 1
  clear hb
  by_cases h1 : ix < 0 ∨ rd < 0
  · have ha : ask l id ix rd = (1, l) := by unfold ask; rw [if_pos h1]
    have HM := Lib.hid ha
    have h2 : (decide (ix < 0) || decide (rd < 0)) = true := by simpa using h1
    clear ha h1
    generalize ask l id ix rd = res at HM ⊢
    go_enter Try.func27, Try.ntmps27
    go_wp2_with fail
    all_goals go_ret
    all_goals
      have hm := HM.out
      subst hm
      first | exact ⟨a, cap, rfl, HB.out, Kp.refl _ _, Or.inl rfl⟩ | exact ⟨rfl, a, ⟨cap, HB.out⟩, Kp.refl _ _, Or.inl rfl⟩
  · have h2 : 0 ≤ ix := by omega
    have h3 : 0 ≤ rd := by omega
    have HA4 := Lib.hid (show id ∈ ids l → ask l id ix rd = (4, l) from fun h4 => by unfold ask; rw [if_neg h1, if_pos h4])
    have HA7 := Lib.hid (show id ∉ ids l → 100 ≤ l.length → ask l id ix rd = (7, l) from fun h4 h5 => by unfold ask; rw [if_neg h1, if_neg h4, if_pos h5])
    have HA0 := Lib.hid (show id ∉ ids l → ¬ 100 ≤ l.length → ask l id ix rd = (0, l ++ [⟨id, ix, rd⟩]) from fun h4 h5 => by unfold ask; rw [if_neg h1, if_neg h4, if_neg h5])
    clear h1
    generalize ask l id ix rd = res at HA4 HA7 HA0 ⊢
    go_enter Try.func27, Try.ntmps27
    go_wp2_with fail
    go_loopw [9] (fun i wr => ∃ k : Nat, i = .int .i64 k ∧ k ≤ l.length ∧ id ∉ ids (l.take k) ∧ wr = w) (fun i _ => l.length - (intOf i).toNat)
    case atStart => exact ⟨0, rfl, Nat.zero_le _, by simp [ids], rfl⟩
    case round =>
      obtain ⟨k, rfl, hk, hn, rfl⟩ := hrel
      by_cases hlt : k < l.length
      · obtain ⟨g, rfl, d0, d1, d2⟩ := HR.out k hlt
        have hS := ids_take_succ l k hlt
        have hmem : (l.getD k default).id ∈ ids l := List.mem_map.2 ⟨l[k], List.getElem_mem hlt, by simp [List.getD, List.getElem?_eq_getElem hlt]⟩
        generalize l.getD k default = x at d0 d1 d2 hS hmem
        have hkI : (k : Int) < (l.length : Int) := by omega
        have hk0 : (0 : Int) ≤ (k : Int) := by omega
        clear d1 d2
        by_cases hx : x.id = id
        · rw [hx] at hmem d0
          have HM := Lib.hid (HA4.out hmem)
          clear hmem hS hn hx
          go_wp2_with fail
          go_ret
          exact ⟨_, cap, by rw [HM.out]; rfl, by rw [HM.out]; exact HB.out, Kp.refl _ _, Or.inl rfl⟩
        · have hne : (x.id == id) = false := by simpa using hx
          have hnn : id ∉ ids (l.take (k + 1)) := by
            rw [hS, List.mem_append]
            rintro (h | h)
            · exact hn h
            · exact hx (List.mem_singleton.1 h).symm
          have HN := Lib.hid hnn
          generalize x.id = xi at d0 hne
          clear hmem hS hn hx hnn
          go_wp2_with fail
          go_roundw
          case rel => exact ⟨k + 1, by go_num, by omega, HN.out, trivial⟩
          case measure => simp [intOf]; omega
      · obtain rfl : k = l.length := by omega
        rw [List.take_length] at hn
        by_cases h5 : 100 ≤ l.length
        · have HM := Lib.hid (HA7.out hn h5)
          clear hn
          go_wp2_with fail
          go_ret
          exact ⟨a, cap, by rw [HM.out]; rfl, by rw [HM.out]; exact HB.out, Kp.refl _ _, Or.inl rfl⟩
        · have HM := Lib.hid (HA0.out hn h5)
          have h6 : (l.length : Int) < 100 := by omega
          clear hn
          go_wp2_with (at_builtin; refine Stop.mk ?_)
          unfold Stop
          have hb1 := HB.out
          have hltb := lt_of_block hb1.blk
          have hge := hb1.ge
          have hk1 := (Kp.refl (fun _ => False) wr).alloc (.cells #[.int .i64 id, .int .i64 ix, .int .i64 rd] 74)
          refine wpList_app_at rfl _ _ 60 rfl B 74 info74 Try.underlying60 rfl (by decide) rfl (hb1.own.kp hk1 (fun _ _ h => h)) rfl (news := flat [⟨id, ix, rd⟩]) rfl (fun j u hu => ?c1) (one_flat _) (by unfold maxLen; omega) (by omega) (by simp; omega) ?_
          case c1 =>
            match j, hu with
            | 0, hu => simp [flat] at hu; subst hu; simp [Addr.add]
            | 1, hu => simp [flat] at hu; subst hu; simp [Addr.add]
            | 2, hu => simp [flat] at hu; subst hu; simp [Addr.add]
            | j + 3, hu => simp [flat] at hu
          intro a' cap' w4 ho4 hk4 hwh
          have hK4 : Kp (fun k => some k = blockOf a) wr w4 := (hk1.mono (S' := fun k => some k = blockOf a) (fun _ _ h => h.elim)).andThen hk4 (fun i hi e => e)
          have hmv : Moved wr a a' := hwh.imp (fun h => h) (fun h g hg => by rw [h] at hg; simp at hg; omega)
          have hAs := hb1.asked hK4 ho4
          have hh := hK4.heap hb1.blk (fun e => hb1.ne e.symm)
          have f2 := free_of hh 1
          have d2 := cell_of hh 1 (v := .slice a l.length cap) rfl
          have HA := Lib.hid hAs
          clear ho4 hk4 hwh hK4 hk1 hge hltb hb1 hAs hh c1 f1
          go_wp2
          go_ret
          exact ⟨a', cap', by rw [HM.out]; rfl, by rw [HM.out]; exact HA.out.1, HA.out.2, hmv⟩

set_option maxHeartbeats 4000000 in
theorem lists_any {w : World} {x y : Option Addr} {zs ys : List Int} (hx : Ints w x zs) (hy : Ints w y ys) (mx : zs.length ≤ 17592186043904) (cx cy : Nat) :
    Calls Try.prog 18 #[.slice x zs.length cx, .slice y ys.length cy] w fun e w' => e = .returned (.bool (decide (zs = ys))) ∧ Kp (fun _ => False) w w' := by
  have HX := Lib.hid hx
  have HY := Lib.hid hy
  clear hx hy
  by_cases hlen : zs.length = ys.length
  · obtain ⟨n, hn⟩ : ∃ n, n = zs.length := ⟨_, rfl⟩
    have HL := Lib.hid hn.symm
    have HN := Lib.hid (hn.trans hlen)
    rw [← hlen, ← hn]
    rw [← hn] at mx
    clear hlen hn
    go_enter Try.func18, Try.ntmps18
    go_wp2_with fail
    go_loopw [5] (fun i wr => ∃ k : Nat, i = .int .i64 k ∧ k ≤ n ∧ zs.take k = ys.take k ∧ Kp (fun _ => False) w wr) (fun i _ => n - (intOf i).toNat)
    case atStart => exact ⟨0, rfl, Nat.zero_le _, rfl, Kp.refl _ _⟩
    case round =>
      obtain ⟨k, rfl, hk, ht, hK⟩ := hrel
      by_cases hlt : k < n
      · have l1 : k < zs.length := by rw [HL.out]; exact hlt
        have l2 : k < ys.length := by rw [← HN.out]; exact hlt
        obtain ⟨b1, o1, rfl, c1⟩ := (HX.out.no hK).at l1
        obtain ⟨b2, o2, rfl, c2⟩ := (HY.out.no hK).at l2
        have t1 : zs.take (k + 1) = zs.take k ++ [zs.getD k 0] := by rw [List.take_succ_eq_append_getElem l1]; simp [List.getD, List.getElem?_eq_getElem l1]
        have t2 : ys.take (k + 1) = ys.take k ++ [ys.getD k 0] := by rw [List.take_succ_eq_append_getElem l2]; simp [List.getD, List.getElem?_eq_getElem l2]
        have hne : zs.getD k 0 ≠ ys.getD k 0 → zs ≠ ys := fun h e => h (by rw [e])
        generalize zs.getD k 0 = z at c1 t1 hne
        generalize ys.getD k 0 = y at c2 t2 hne
        have hkI : (k : Int) < (n : Int) := by omega
        have hk0 : (0 : Int) ≤ (k : Int) := by omega
        by_cases hzy : z = y
        · subst hzy
          have T1 := Lib.hid (t1.trans ((congrArg (· ++ [z]) ht).trans t2.symm))
          clear t1 t2 hne ht l1 l2
          go_wp2_with fail
          go_quiet (fail)
          go_wp2
          go_roundw
          case rel => first | exact ⟨k + 1, by go_num, by omega, T1.out, hK.drewN _⟩ | ((repeat apply Exists.intro); exact ⟨⟨k + 1, by go_num, by omega, T1.out, hK.drewN _⟩, rfl⟩)
          case measure => simp [intOf]; omega
        · have HNE := Lib.hid (hne hzy)
          have hzb : (z == y) = false := by simpa using hzy
          clear t1 t2 hne ht l1 l2 hzy
          go_wp2_with fail
          go_quiet (fail)
          go_wp2
          go_ret
          exact ⟨by rw [decide_eq_false HNE.out]; rfl, hK.drewN _⟩
      · have e1 : zs.take k = zs := List.take_of_length_le (by rw [HL.out]; omega)
        have e2 : ys.take k = ys := List.take_of_length_le (by rw [← HN.out]; omega)
        rw [e1, e2] at ht
        have HT := Lib.hid ht
        clear e1 e2 ht
        go_wp2_with fail
        go_ret
        exact ⟨by rw [decide_eq_true HT.out]; rfl, hK⟩
  · have hne : zs ≠ ys := fun e => hlen (by rw [e])
    have HNE := Lib.hid hne
    have hl : ((zs.length : Int) == (ys.length : Int)) = false := by simpa using fun e => hlen (by omega)
    clear hne hlen
    go_enter Try.func18, Try.ntmps18
    go_wp2_with fail
    go_ret
    exact ⟨by rw [decide_eq_false HNE.out]; rfl, Kp.refl _ _⟩
end Go.Proofs.Ytdkgbjbfmempdaa
