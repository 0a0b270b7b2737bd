/-
  The document's Ready, walked once. No condition.
-/
import Derived.Test.YtdkgbjbfmempdaaRa
import Derived.Test.YtdkgbjbfmempdaaRy
import Derived.Deep.AppendLies
import Derived.Deep.DeepCutAuto
namespace Go.Proofs.Ytdkgbjbfmempdaa
open Go.ChangeShapes Go.WideShapes Go.ChangeAt Go.RowKit Go.Deep
set_option linter.unusedVariables false

theorem toldAll_take (p : Rd → Bool) (l : List Rd) (k : Nat) : (toldAll p (l.take k)).length ≤ k := Nat.le_trans (toldAll_length _ _) (List.length_take_le ..)

theorem grown_kp {w4 wm w5 : World} {oa : Option Addr} {nt oc : Nat} (hg : wm.grownBy w5 (Value.slice oa nt oc).ownBlock) (h : Kp (fun _ => False) w4 wm) : Kp (fun j => some j = blockOf oa) w4 w5 := by
  have h2 := Kp.of_grown hg
  rw [blockOf_own] at h2
  exact (h.mono (fun _ _ h => h.elim)).andThen h2 (fun _ _ h => h)
theorem far_of {w : World} {B : Nat} {e : TypeId} {size : Nat} {a : Option Addr} {n cap : Nat} {xs : List Value} (h : Owns w B e size a n cap xs) {b : Nat} (hb : b < B) : ¬ some b = blockOf a := fun e => by
  have := (h.from e.symm).1
  omega

theorem rready_end {w w2 : World} {B b : Nat} {me : Int} {l : List Rd} {h : Nat → Int} {a oa la : Option Addr} {cap oc lc : Nat} (hb : RBook w B b me l h a cap) (hB : B ≤ w.heap.size) {p : Rd → Bool} (hK : Kp (fun _ => False) w w2)
    (ho : Owns w2 w.heap.size 75 2 oa (toldAll p l).length oc (flat2 (toldAll p l))) (hq : Owns w2 w.heap.size 74 3 la (keep p l).length lc (flat (keep p l))) :
    Owns (w2.setCell ⟨b, 1, none⟩ (.slice la (keep p l).length lc)) w.heap.size 75 2 oa (toldAll p l).length oc (flat2 (toldAll p l)) ∧ RBook (w2.setCell ⟨b, 1, none⟩ (.slice la (keep p l).length lc)) B b me (keep p l) h la lc ∧
      Kp (Foot b a) w (w2.setCell ⟨b, 1, none⟩ (.slice la (keep p l).length lc)) ∧ Moved w a la := by
  have hs : Kp (fun k => k = b) w2 (w2.setCell ⟨b, 1, none⟩ (.slice la (keep p l).length lc)) := (Kp.refl (fun k => k = b) _).setCell (p := ⟨b, 1, none⟩) (Or.inl rfl) _
  have hbl := lt_of_block hb.blk
  have hq2 := hq.kp hs (fun g hg e => by have := (hq.from hg).1; omega)
  refine ⟨ho.kp hs (fun g hg e => by have := (ho.from hg).1; omega), ⟨?_, ⟨hq2.1, ?_⟩, hb.ge⟩, (hK.mono (S' := Foot b a) (fun _ _ h => h.elim)).andThen hs (fun i hi e => Or.inl e), Or.inr fun g hg => (hq.from hg).1⟩
  · have := heap_set (hb.no hK).blk 1 (.slice la (keep p l).length lc)
    rw [rbCells_list] at this
    exact this
  · rcases hq2.2 with h | ⟨g, cap', cur, hv, hge, r⟩
    · exact .inl h
    · exact .inr ⟨g, cap', cur, hv, by omega, r⟩

set_option maxRecDepth 100000 in
set_option maxHeartbeats 4000000 in
theorem rready_any {w : World} {B b : Nat} {me : Int} {l : List Rd} {h : Nat → Int} {a : Option Addr} {cap : Nat} (hb : RBook w B b me l h a cap) (hB : B ≤ w.heap.size) (hl : l.length ≤ 1000) {x : Option Addr} {zs : List Int} (hx : Ints w x zs) (mx : zs.length ≤ 17592186043904) (cx : Nat) :
    Calls Try.prog 30 #[.pointer (some ⟨b, 0, none⟩), .slice x zs.length cx] w fun e w' => ∃ o co a' cap', e = .returned (.slice o (toldAll (fun r => won zs (yes me h r.rd)) l).length co) ∧ Owns w' w.heap.size 75 2 o (toldAll (fun r => won zs (yes me h r.rd)) l).length co (flat2 (toldAll (fun r => won zs (yes me h r.rd)) l)) ∧
      RBook w' B b me (keep (fun r => won zs (yes me h r.rd)) l) h a' cap' ∧ Kp (Foot b a) w w' ∧ Moved w a a' := by
  have HB := Lib.hid hb
  have HR := Lib.hid hb.own.reads
  have HX := Lib.hid hx
  have HP := Lib.hid (show ∀ r, (fun r : Rd => won zs (yes me h r.rd)) r = won zs (yes me h r.rd) from fun _ => rfl)
  clear hb hx
  generalize (fun r : Rd => won zs (yes me h r.rd)) = p at HP ⊢
  go_enter Try.func30, Try.ntmps30
  go_wp2_with fail
  go_loopw [5, 6, 7] (fun o q i wr => ∃ (k : Nat) (oa la : Option Addr) (oc lc : Nat), i = .int .i64 k ∧ k ≤ l.length ∧ o = .slice oa (toldAll p (l.take k)).length oc ∧ q = .slice la (keep p (l.take k)).length lc ∧ Owns wr w.heap.size 75 2 oa (toldAll p (l.take k)).length oc (flat2 (toldAll p (l.take k))) ∧
    Owns wr w.heap.size 74 3 la (keep p (l.take k)).length lc (flat (keep p (l.take k))) ∧ Kp (fun _ => False) w wr) (fun _ _ i _ => l.length - (intOf i).toNat)
  case atStart => exact ⟨0, none, none, 0, 0, rfl, Nat.zero_le _, rfl, rfl, Owns.nil _ _ _ _, Owns.nil _ _ _ _, Kp.refl _ _⟩
  case round =>
    obtain ⟨k, oa, la, oc, lc, rfl, hk, rfl, rfl, ho, hq, hK⟩ := hrel
    have cb := cell_of (HB.out.no hK).blk 1 (v := .slice a l.length cap) rfl
    have c0 := cell_of (HB.out.no hK).blk 0 (v := .int .i64 me) rfl
    by_cases hlt : k < l.length
    · obtain ⟨g, rfl, d0, d1, d2⟩ := HR.out k hlt
      have hks := keep_succ p l k hlt
      have hts := toldAll_succ p l k hlt
      have hkl := keep_le_take p l k
      have htl := toldAll_take p l k
      have hpx := HP.out (l.getD k default)
      generalize l.getD k default = r at d0 d1 d2 hks hts hpx
      have hg := World.block_lt_of_cell? _ _ d0
      have hkI : (k : Int) < (l.length : Int) := by omega
      have hk0 : (0 : Int) ≤ (k : Int) := by omega
      obtain ⟨nt, hnt⟩ : ∃ nt, nt = (toldAll p (l.take k)).length := ⟨_, rfl⟩
      obtain ⟨nk, hnk⟩ : ∃ nk, nk = (keep p (l.take k)).length := ⟨_, rfl⟩
      rw [← hnt] at ho htl ⊢
      rw [← hnk] at hq hkl ⊢
      have HNT := Lib.hid hnt
      have HNK := Lib.hid hnk
      have HKS := Lib.hid hks
      have HTS := Lib.hid hts
      have HO := Lib.hid ho
      have HQ := Lib.hid hq
      have HK := Lib.hid hK
      have HPX := Lib.hid hpx
      have D0 := Lib.hid d0
      have D1 := Lib.hid d1
      have D2 := Lib.hid d2
      have HG := Lib.hid hg
      clear hks hts hnt hnk ho hq hK hpx d0 d1 d2 hg
      go_wp2_with fail
      go_loopw [8, 9] (fun o i w2 => ∃ (j : Nat) (ya : Option Addr) (yc : Nat), i = .int .i64 j ∧ j ≤ 16 ∧ o = .slice ya (yesK me h r.rd j).length yc ∧ Owns w2 wr.heap.size 3 1 ya (yesK me h r.rd j).length yc ((yesK me h r.rd j).map (Value.int .i64)) ∧ Kp (fun _ => False) wr w2) (fun _ i _ => 16 - (intOf i).toNat)
      case atStart => exact ⟨0, _, _, rfl, by omega, rfl, Owns.one (heap_new wr _) (Nat.le_refl _), (Kp.refl _ _).alloc _⟩
      case round =>
        clear cb c0
        obtain ⟨j, ya, yc, rfl, hj, rfl, hy, hK2⟩ := hrel
        have hyl := yesK_length me h r.rd j
        have hKw := HK.out.andThen hK2 (fun _ _ h => h)
        have cb := cell_of (HB.out.no hKw).blk 1 (v := .slice (some ⟨g, 0, none⟩) l.length cap) rfl
        have e0 := (hKw.cell (p := ⟨g, k * 3, none⟩) HG.out (fun h => h)).trans D0.out
        have e1 := (hKw.cell (p := ⟨g, k * 3 + 1, none⟩) HG.out (fun h => h)).trans D1.out
        have e2 := (hKw.cell (p := ⟨g, k * 3 + 2, none⟩) HG.out (fun h => h)).trans D2.out
        by_cases hlj : j < 16
        · have ch := rhears_of (HB.out.no hKw).blk hlj
          have hyS : yesK me h r.rd (j + 1) = yesK me h r.rd j ++ (if r.rd ≤ h j then [(j : Int)] else []) := rfl
          generalize yesK me h r.rd j = ys at hy hyS hyl ⊢
          generalize h j = hj' at ch hyS
          obtain ⟨ny, hny⟩ : ∃ ny, ny = ys.length := ⟨_, rfl⟩
          rw [← hny] at hy hyl ⊢
          have HNY := Lib.hid hny
          have hjI : (j : Int) < 16 := by omega
          have hj0 : (0 : Int) ≤ (j : Int) := by omega
          clear hny
          by_cases hge : r.rd ≤ hj'
          · rw [if_pos hge] at hyS
            have HY := Lib.hid hyS
            clear hyS e0 e1
            go_wp2_with fail
            go_quiet (fail)
            go_wp2_with (at_builtin; refine Stop.mk ?_)
            unfold Stop
            have hsz := hK2.size
            refine wpList_app rfl _ _ 23 rfl _ 3 info3 Try.underlying23 rfl (by decide) rfl (Owns.kp hy (((Kp.refl (fun _ => False) _).drewN _).alloc _) (fun _ _ h => h)) rfl (news := [(j : Int)].map (Value.int .i64)) (by simp) (fun j' u hu => ⟨_, rfl, ?c1⟩) (one_int _) (by unfold maxLen; omega) (by omega) (by simp; omega) ?_
            case c1 =>
              match j', hu with
              | 0, hu => simp at hu; subst hu; simp only [Addr.add, if_true]; exact cell_of (heap_new (World.drewN wr _) _) 0 rfl
              | j' + 1, hu => simp at hu
            intro a' cap' w3 ho3 hk3
            have hK3 := ((hK2.drewN _).alloc _).andThen hk3 (fun i hi e => by have := (Owns.from hy e.symm).1; omega)
            rw [← List.map_append] at ho3
            clear hk3 hy hsz hK2 cb ch e2 hKw
            go_wp2
            go_roundw
            case rel => first | exact ⟨j + 1, a', cap', by go_num, by omega, by rw [HY.out]; simp [HNY.out], by rw [HY.out]; simpa [HNY.out] using ho3, hK3⟩ | ((repeat apply Exists.intro); exact ⟨⟨j + 1, a', cap', by go_num, by omega, by rw [HY.out]; simp [HNY.out], by rw [HY.out]; simpa [HNY.out] using ho3, hK3⟩, rfl⟩)
            case measure => simp [intOf]; omega
          · rw [if_neg hge, List.append_nil] at hyS
            have HY := Lib.hid hyS
            clear hyS e0 e1
            go_wp2_with fail
            go_quiet (fail)
            go_wp2
            go_roundw
            case rel => exact ⟨j + 1, ya, yc, by go_num, by omega, by rw [HY.out, HNY.out], by rw [HY.out, ← HNY.out]; exact hy.kp ((Kp.refl (fun _ => False) _).drewN _) (fun _ _ h => h), hK2.drewN _⟩
            case measure => simp [intOf]; omega
        · obtain rfl : j = 16 := by omega
          have hys : yesK me h r.rd 16 = yes me h r.rd := rfl
          rw [hys] at hy hyl ⊢
          have HW := Lib.hid (won_ref (HX.out.no hKw) hy.ints mx (by omega) cx yc)
          have hpx := HPX.out
          rw [← hpx] at HW
          generalize p r = px at HW HKS HTS
          clear hy hys hyl hpx
          have hKK := Lib.hid hKw
          clear cb e0 e1 e2
          cases px with
          | true =>
            obtain ⟨i75, hi, hz0, hz1, hz2⟩ := info_parts info75
            go_wp2_with (go_at_call 37; refine HW.out.mono ?_; rintro e w4 ⟨rfl, hk4⟩; have hKw4 := Lib.hid (hKw.andThen hk4 (fun _ _ h => h)); have hHo4 := Lib.hid ((HO.out.no hK2).no hk4); have hHq4 := Lib.hid ((HQ.out.no hK2).no hk4); have cb4 := cell_of (HB.out.no hKw4.out).blk 1 (v := .slice (some ⟨g, 0, none⟩) l.length cap) rfl; have f0 := (hKw4.out.cell (p := ⟨g, k * 3, none⟩) HG.out (fun h => h)).trans D0.out; have f1 := (hKw4.out.cell (p := ⟨g, k * 3 + 1, none⟩) HG.out (fun h => h)).trans D1.out; have f2 := (hKw4.out.cell (p := ⟨g, k * 3 + 2, none⟩) HG.out (fun h => h)).trans D2.out; clear hKw hk4)
            go_region_held3 (fun w' => w'.cell? ⟨b, 1, none⟩ = some (.slice (some ⟨g, 0, none⟩) l.length cap) ∧ w'.cell? ⟨g, k * 3, none⟩ = some (.int .i64 r.id) ∧ w'.cell? ⟨g, k * 3 + 1, none⟩ = some (.int .i64 r.ix)) (first | go_keep | exact ⟨s1, s2, s3⟩) ((refine step_append_lies _ (by rfl) _ _ _ (by rfl) w.heap.size 75 i75 _ 2 16 Try.underlying66 hi hz0 hz1 hz2 rfl (by omega) (.slice oa nt oc) nt (flat2 (toldAll p (l.take k))) (by rfl) (Owns.kp hHo4.out (by repeat (first | exact Kp.refl (fun _ => False) _ | apply Kp.drew | apply Kp.alloc)) (fun _ _ h => h)) ⟨w4.heap.size, 0, none⟩ 1 1 [.int .i64 r.id, .int .i64 r.ix] (by rfl) (by rfl) (World.news_of_block (cs := #[.int .i64 r.id, .int .i64 r.ix]) (t := 75) (fr := (0, 0)) (heap_alloc_new _ _)) (by simp [Value.oneCell']) (by omega) (by unfold maxLen; omega) (by omega) (by have := hKw4.out.size; simp; omega) (w4.heap.size + 1) (by simp) ?_; intro gg cap5 w5 hown5 hgrow hat hlt5; have hK5 := Lib.hid (grown_kp (w4 := w4) hgrow (by repeat (first | exact Kp.refl (fun _ => False) _ | apply Kp.drew | apply Kp.alloc))); have hO5 := Lib.hid hown5; clear hgrow hown5 hat hlt5; have s1 := (hK5.out.cell (p := ⟨b, 1, none⟩) (World.block_lt_of_cell? _ _ cb4) (far_of hHo4.out (lt_of_block HB.out.blk))).trans cb4; have s2 := (hK5.out.cell (p := ⟨g, k * 3, none⟩) (World.block_lt_of_cell? _ _ f0) (far_of hHo4.out HG.out)).trans f0; have s3 := (hK5.out.cell (p := ⟨g, k * 3 + 1, none⟩) (World.block_lt_of_cell? _ _ f1) (far_of hHo4.out HG.out)).trans f1))
            have hQ5 := hHq4.out.kp hK5.out (fun g' hg' e => by
              obtain ⟨cur, hc⟩ := hHq4.out.type hg'
              obtain ⟨cur', hc'⟩ := hHo4.out.type e.symm
              have := hc.symm.trans hc'
              simp at this)
            have hKw5 : Kp (fun _ => False) w w5 := hKw4.out.andThen hK5.out (fun i hi e => by have := (hHo4.out.from e.symm).1; omega)
            have hts : toldAll p (l.take (k + 1)) = toldAll p (l.take k) ++ [(r.id, r.ix)] := HTS.out
            have hks : keep p (l.take (k + 1)) = keep p (l.take k) := by simpa using HKS.out
            have ht5 : Owns w5 w.heap.size 75 2 (some ⟨gg, 0, none⟩) (toldAll p (l.take (k + 1))).length cap5 (flat2 (toldAll p (l.take (k + 1)))) := by
              rw [hts, flat2_append, List.length_append, ← HNT.out]
              exact hO5.out
            have hn1 : (toldAll p (l.take (k + 1))).length = nt + 1 := by rw [hts, List.length_append, ← HNT.out]; rfl
            have hn2 : (keep p (l.take (k + 1))).length = nk := by rw [hks, ← HNK.out]
            have hq5 : Owns w5 w.heap.size 74 3 la (keep p (l.take (k + 1))).length lc (flat (keep p (l.take (k + 1)))) := by rw [hn2, hks]; exact hQ5
            have HN1 := Lib.hid hn1
            have HN2 := Lib.hid hn2
            clear hts hks hn1 hn2
            go_wp2
            go_roundw
            case rel => exact ⟨k + 1, some ⟨gg, 0, none⟩, la, cap5, lc, by go_num, by omega, by rw [HN1.out], by rw [HN2.out], ht5, hq5, hKw5⟩
            case measure => simp [intOf]; omega
          | false =>
            go_wp2_with (first | (go_at_call 37; refine HW.out.mono ?_; rintro e w4 ⟨rfl, hk4⟩; have hKw4 := Lib.hid (hKw.andThen hk4 (fun _ _ h => h)); have hHo4 := Lib.hid ((HO.out.no hK2).no hk4); have hHq4 := Lib.hid ((HQ.out.no hK2).no hk4); have cb4 := cell_of (HB.out.no hKw4.out).blk 1 (v := .slice (some ⟨g, 0, none⟩) l.length cap) rfl; have f0 := (hKw4.out.cell (p := ⟨g, k * 3, none⟩) HG.out (fun h => h)).trans D0.out; have f1 := (hKw4.out.cell (p := ⟨g, k * 3 + 1, none⟩) HG.out (fun h => h)).trans D1.out; have f2 := (hKw4.out.cell (p := ⟨g, k * 3 + 2, none⟩) HG.out (fun h => h)).trans D2.out; clear hKw hk4) | (at_builtin; refine Stop.mk ?_))
            unfold Stop
            have hsz4 := hKw4.out.size
            refine wpList_app rfl _ _ 60 rfl w.heap.size 74 info74 Try.underlying60 rfl (by decide) rfl (Owns.kp hHq4.out ((Kp.refl (fun _ => False) _).alloc _) (fun _ _ h => h)) rfl (news := flat [r]) rfl (fun j' u hu => ⟨_, rfl, ?c2⟩) (one_flat _) (by unfold maxLen; omega) (by omega) (by simp; omega) ?_
            case c2 =>
              match j', hu with
              | 0, hu => simp [flat] at hu; subst hu; simp [Addr.add]
              | 1, hu => simp [flat] at hu; subst hu; simp [Addr.add]
              | 2, hu => simp [flat] at hu; subst hu; simp [Addr.add]
              | j' + 3, hu => simp [flat] at hu
            intro a' cap' w5 hq5 hk5
            have hK5 : Kp (fun j => some j = blockOf la) w4 w5 := (((Kp.refl (fun _ => False) w4).alloc _).mono (S' := fun j => some j = blockOf la) (fun _ _ h => h.elim)).andThen hk5 (fun _ _ h => h)
            have ho5 := hHo4.out.kp hK5 (fun g' hg' e => by
              obtain ⟨cur, hc⟩ := hHo4.out.type hg'
              obtain ⟨cur', hc'⟩ := hHq4.out.type e.symm
              have := hc.symm.trans hc'
              simp at this)
            have hKw5 : Kp (fun _ => False) w w5 := hKw4.out.andThen hK5 (fun i hi e => by have := (hHq4.out.from e.symm).1; omega)
            have hts : toldAll p (l.take (k + 1)) = toldAll p (l.take k) := by simpa [told] using HTS.out
            have hks : keep p (l.take (k + 1)) = keep p (l.take k) ++ [r] := by simpa using HKS.out
            have hn1 : (toldAll p (l.take (k + 1))).length = nt := by rw [hts, ← HNT.out]
            have hn2 : (keep p (l.take (k + 1))).length = nk + 1 := by rw [hks, List.length_append, ← HNK.out]; rfl
            have ht6 : Owns w5 w.heap.size 75 2 oa (toldAll p (l.take (k + 1))).length oc (flat2 (toldAll p (l.take (k + 1)))) := by rw [hn1, hts]; exact ho5
            have hq6 : Owns w5 w.heap.size 74 3 a' (keep p (l.take (k + 1))).length cap' (flat (keep p (l.take (k + 1)))) := by
              rw [hn2, hks, flat_append]
              exact hq5
            have HN1 := Lib.hid hn1
            have HN2 := Lib.hid hn2
            clear hts hks hn1 hn2 hq5 hk5 ho5 hsz4
            go_wp2
            go_roundw
            case rel => first | exact ⟨k + 1, oa, a', oc, cap', by go_num, by omega, by rw [HN1.out], by rw [HN2.out], ht6, hq6, hKw5⟩ | ((repeat apply Exists.intro); exact ⟨⟨k + 1, oa, a', oc, cap', by go_num, by omega, by rw [HN1.out], by rw [HN2.out], ht6, hq6, hKw5⟩, rfl⟩)
            case measure => simp [intOf]; omega
    · have e : l.take k = l := List.take_of_length_le (by omega)
      rw [e] at ho hq ⊢
      have f1 := free_of (HB.out.no hK).blk 1
      have hkp : (keep p l).length ≤ l.length := keep_length _ _
      have HO := Lib.hid ho
      have HQ := Lib.hid hq
      have HE := Lib.hid (rready_end HB.out hB hK ho hq)
      clear ho hq e
      go_wp2_with fail
      go_ret
      exact ⟨oa, oc, la, lc, rfl, HE.out⟩
end Go.Proofs.Ytdkgbjbfmempdaa
