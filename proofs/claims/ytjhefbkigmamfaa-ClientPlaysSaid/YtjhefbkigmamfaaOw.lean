/-
  own, walked once: an answer in memory of its own. Where the reach bounds the records.
-/
import Derived.Test.YtjhefbkigmamfaaHe
namespace Go.Proofs.Ytjhefbkigmamfaa
open Go.ChangeShapes Go.WideShapes Go.ChangeAt Go.RowKit
set_option linter.unusedVariables false

theorem Owns.set1 {w : World} {B : Nat} {e : TypeId} {a : Option Addr} {g n cap : Nat} {vs : List Value} (h : Owns w B e 1 a n cap vs) (ha : a = some ⟨g, 0, none⟩) {i : Nat} (hi : i < n) (v : Value) : Owns (w.setCell ⟨g, i, none⟩ v) B e 1 a n cap (vs.set i v) := by
  subst ha
  refine ⟨by rw [List.length_set]; exact h.1, ?_⟩
  rcases h.2 with ⟨h2, _⟩ | ⟨g', cap', cur, hv, hge, hg, hn, hc, hs, ht⟩
  · simp at h2
  · simp only [Value.slice.injEq, Option.some.injEq, Addr.mk.injEq] at hv
    obtain ⟨⟨rfl, _⟩, _, rfl⟩ := hv
    refine .inr ⟨g, cap, cur.setIfInBounds i v, rfl, hge, heap_set hg i v, hn, hc, by rw [Array.size_setIfInBounds]; exact hs, ?_⟩
    rw [Array.toList_setIfInBounds, ← ht, List.take_set]
theorem one_recs (l : List RecV) : ∀ u ∈ l.map RecV.val, u.oneCell' = true := by
  intro u hu
  obtain ⟨r, _, rfl⟩ := List.mem_map.1 hu
  rfl

/-- A copy of records: the same bytes, in blocks from s on. -/
structure Copied (w : World) (s : Nat) (rl new : List RecV) : Prop where
  len : new.length ≤ rl.length
  same : ∀ (k : Nat) (r : RecV), new[k]? = some r → ∃ q, rl[k]? = some q ∧ r.d = q.d
  row : ∀ r ∈ new, Row w r.a (bytes r.d) ∧ ∀ g, blockOf r.a = some g → s ≤ g ∧ g < w.heap.size
theorem Copied.kp {w w' : World} {s : Nat} {rl new : List RecV} (h : Copied w s rl new) {S : Nat → Prop} (hk : Kp S w w') (hn : ∀ r ∈ new, ∀ g, blockOf r.a = some g → ¬ S g) : Copied w' s rl new :=
  ⟨h.len, h.same, fun r hr => ⟨(h.row r hr).1.kp hk (hn r hr), fun g hg => ⟨((h.row r hr).2 g hg).1, Nat.lt_of_lt_of_le ((h.row r hr).2 g hg).2 hk.size⟩⟩⟩

theorem Kp.setRow {S : Nat → Prop} {a w : World} (h : Kp S a w) {g : Nat} (hp : S g ∨ a.heap.size ≤ g) (cs : Array Value) : Kp S a (w.setRow g cs) :=
  h.andThen (S' := fun k => k = g) ⟨rfl, rfl, rfl, by simp, fun k _ hn => setRow_other _ _ _ _ hn⟩
    fun i hi e => hp.elim (fun h => e ▸ h) (fun h => by omega)
theorem set_mid {α : Type} (A : List α) (x v : α) (B : List α) : (A ++ x :: B).set A.length v = (A ++ [v]) ++ B := by
  rw [List.set_append_right _ _ (Nat.le_refl _), Nat.sub_self, List.set_cons_zero, List.append_assoc]
  rfl
theorem get_mid {α : Type} (A : List α) (x : α) (B : List α) : (A ++ x :: B)[A.length]? = some x := by
  rw [List.getElem?_append_right (Nat.le_refl _), Nat.sub_self]
  rfl
theorem far_cell {w : World} {p q : Addr} {u x : Value} (h : w.cell? p = some x) (hn : p.block ≠ q.block) : (w.setCell q u).cell? p = some x :=
  (World.cell?_of_block (w := w) (Below.heap_setCell w q u p.block hn)).trans h
set_option maxRecDepth 100000 in
set_option maxHeartbeats 4000000 in
theorem own_any {w : World} (a : AnsV) (hr : Row w a.ra (a.rl.map RecV.val)) (hi : ∀ r ∈ a.rl, Row w r.a (bytes r.d) ∧ r.d.length ≤ 140737488355328) (hm : a.rl.length * 24 ≤ 140737488355328) :
    Calls Try.prog 34 #[.agg a.cells.toArray] w fun e w' => ∃ na new nc, e = .returned (.agg ({ a with ra := na, rl := new, rc := nc } : AnsV).cells.toArray) ∧ new.length = a.rl.length ∧ Copied w' w.heap.size a.rl new ∧ Row w' na (new.map RecV.val) ∧ (∀ g, blockOf na = some g → w.heap.size ≤ g ∧ g < w'.heap.size) ∧ Kp (fun _ => False) w w' := by
  obtain ⟨ai, ae, as_, an, ra, rl, rc, al⟩ := a
  simp only at hr hi hm
  show Calls Try.prog 34 #[.agg #[.int .i64 ai, .int .i64 ae, .int .i64 as_, .int .i64 an, .slice ra rl.length rc, .int .i64 al]] w _
  have hc := fun w' (k : Kp (fun _ => False) w w') => clone45 (hr.no k) (one_recs rl) (by rw [List.length_map]; exact hm) rc
  have HC := Lib.hid hc
  have HI := Lib.hid hi
  have HM := Lib.hid hm
  clear hr hi hm hc
  go_enter Try.func34, Try.ntmps34
  go_upto_region 1 with fail
  have hk0 : Kp (fun _ => False) w ((w.alloc (.cells #[.int .i64 ai, .int .i64 ae, .int .i64 as_, .int .i64 an, .slice ra rl.length rc, .int .i64 al] 47)).alloc (.cells #[.int .i64 0, .int .i64 0, .int .i64 0, .int .i64 0, .slice none 0 0, .int .i64 0] 47)) := ((Kp.refl _ _).alloc _).alloc _
  have hX1 : ((w.alloc (.cells #[.int .i64 ai, .int .i64 ae, .int .i64 as_, .int .i64 an, .slice ra rl.length rc, .int .i64 al] 47)).alloc (.cells #[.int .i64 0, .int .i64 0, .int .i64 0, .int .i64 0, .slice none 0 0, .int .i64 0] 47)).heap[w.heap.size]? = some (.cells #[.int .i64 ai, .int .i64 ae, .int .i64 as_, .int .i64 an, .slice ra rl.length rc, .int .i64 al] 47 (0, 0)) := heap_old _ (heap_new w _)
  have hX2 : ((w.alloc (.cells #[.int .i64 ai, .int .i64 ae, .int .i64 as_, .int .i64 an, .slice ra rl.length rc, .int .i64 al] 47)).alloc (.cells #[.int .i64 0, .int .i64 0, .int .i64 0, .int .i64 0, .slice none 0 0, .int .i64 0] 47)).heap[w.heap.size + 1]? = some (.cells #[.int .i64 0, .int .i64 0, .int .i64 0, .int .i64 0, .slice none 0 0, .int .i64 0] 47 (0, 0)) := by
    have h := heap_new (w.alloc (.cells #[.int .i64 ai, .int .i64 ae, .int .i64 as_, .int .i64 an, .slice ra rl.length rc, .int .i64 al] 47)) (.cells #[.int .i64 0, .int .i64 0, .int .i64 0, .int .i64 0, .slice none 0 0, .int .i64 0] 47)
    simpa using h
  have hs0 : ((w.alloc (.cells #[.int .i64 ai, .int .i64 ae, .int .i64 as_, .int .i64 an, .slice ra rl.length rc, .int .i64 al] 47)).alloc (.cells #[.int .i64 0, .int .i64 0, .int .i64 0, .int .i64 0, .slice none 0 0, .int .i64 0] 47)).heap.size = w.heap.size + 2 := by simp
  generalize ((w.alloc (.cells #[.int .i64 ai, .int .i64 ae, .int .i64 as_, .int .i64 an, .slice ra rl.length rc, .int .i64 al] 47)).alloc (.cells #[.int .i64 0, .int .i64 0, .int .i64 0, .int .i64 0, .slice none 0 0, .int .i64 0] 47)) = w0 at hk0 hX1 hX2 hs0 ⊢
  have HK0 := Lib.hid hk0
  have HX1 := Lib.hid hX1
  have HX2 := Lib.hid hX2
  have HCC := HC.out w0 hk0
  rw [List.length_map, hs0] at HCC
  have HC0 := Lib.hid HCC
  obtain ⟨X, hX⟩ : ∃ X, X = w.heap.size := ⟨_, rfl⟩
  rw [← hX] at HX1 HX2 HC0 ⊢
  have HX := Lib.hid hX
  have x4 : w0.cell? ⟨X, 4, none⟩ = some (.slice ra rl.length rc) := cell_of HX1.out 4 rfl
  clear hk0 hX1 hX2 hs0 HCC HC hX
  go_wp2_with fail
  refine HC0.out.mono ?_
  rintro e w2 ⟨na, nc, rfl, ho2, hk2⟩
  have x4 : w2.cell? ⟨X, 4, none⟩ = some (.slice ra rl.length rc) := cell_of (hk2.heap HX1.out (fun h => h)) 4 rfl
  have xf : w2.frozen? ⟨X, 4, none⟩ = false := free_of (hk2.heap HX1.out (fun h => h)) 4
  have hk3 : Kp (fun j => j = X) w2 (w2.setCell ⟨X, 4, none⟩ (.slice na rl.length nc)) := (Kp.refl (fun j => j = X) _).setCell (p := ⟨X, 4, none⟩) (.inl rfl) _
  have hX3 : (w2.setCell ⟨X, 4, none⟩ (.slice na rl.length nc)).heap[X]? = some (.cells #[.int .i64 ai, .int .i64 ae, .int .i64 as_, .int .i64 an, .slice na rl.length nc, .int .i64 al] 47 (0, 0)) := heap_set (hk2.heap HX1.out (fun h => h)) 4 _
  have hX23 := hk3.heap (hk2.heap HX2.out (fun h => h)) (fun e => by omega)
  have ho3 := ho2.kp hk3 (fun g hg e => by have := (ho2.from hg).1; omega)
  have hkw : Kp (fun _ => False) w (w2.setCell ⟨X, 4, none⟩ (.slice na rl.length nc)) := (HK0.out.trans hk2).andThen hk3 (fun i hi (e : i = X) => by have := HX.out; omega)
  have H3 := Lib.hid hX3
  have H23 := Lib.hid hX23
  have HO3 := Lib.hid ho3
  have HKW := Lib.hid hkw
  clear hk2 ho2 hk3 hX3 hX23 ho3 hkw HX1 HX2 HK0 HC0
  go_upto_region 2 with fail
  generalize w2.setCell ⟨X, 4, none⟩ (.slice na rl.length nc) = w3 at H3 H23 HO3 HKW ⊢
  have x4 : w3.cell? ⟨X, 4, none⟩ = some (.slice na rl.length nc) := cell_of H3.out 4 rfl
  clear xf
  go_wp2_with fail
  have hmn : rl.length ≤ 5864062014805 := by have := HM.out; omega
  go_loopw [12] (fun q wr => ∃ (k : Nat) (new : List RecV), q = .int .i64 k ∧ k ≤ rl.length ∧ new.length = k ∧ wr.heap[X]? = some (.cells #[.int .i64 ai, .int .i64 ae, .int .i64 as_, .int .i64 an, .slice na rl.length nc, .int .i64 al] 47 (0, 0)) ∧ wr.heap[X + 1]? = some (.cells #[.int .i64 0, .int .i64 0, .int .i64 0, .int .i64 0, .slice none 0 0, .int .i64 0] 47 (0, 0)) ∧
    Owns wr (X + 2) 30 1 na rl.length nc (new.map RecV.val ++ (rl.drop k).map RecV.val) ∧ Copied wr (X + 2) rl new ∧ (∀ r ∈ new, ∀ g, blockOf r.a = some g → blockOf na ≠ some g) ∧ Kp (fun _ => False) w wr) (fun q _ => rl.length - (intOf q).toNat)
  case atStart => exact ⟨0, [], rfl, Nat.zero_le _, rfl, H3.out, H23.out, by simpa using HO3.out, ⟨by simp, fun k r h => by simp at h, fun r h => by simp at h⟩, fun r h => by simp at h, HKW.out⟩
  case round =>
    clear H3 H23 HO3 HKW x4
    obtain ⟨k, new, rfl, hk, hnl, h1, h2, ho, hcp, hfr, hK⟩ := hrel
    have H1 := Lib.hid h1
    have H2 := Lib.hid h2
    have HO := Lib.hid ho
    have HCP := Lib.hid hcp
    have HFR := Lib.hid hfr
    have HK := Lib.hid hK
    have HNL := Lib.hid hnl
    clear h1 h2 ho hcp hfr hK hnl
    have x4 : wr.cell? ⟨X, 4, none⟩ = some (.slice na rl.length nc) := cell_of H1.out 4 rfl
    by_cases hlt : k < rl.length
    · have hdr : rl.drop k = rl[k] :: rl.drop (k + 1) := List.drop_eq_getElem_cons hlt
      obtain ⟨r, hr⟩ : ∃ r, r = rl[k] := ⟨_, rfl⟩
      rw [← hr] at hdr
      have hmem : r ∈ rl := by rw [hr]; exact List.getElem_mem hlt
      have hget : rl[k]? = some r := by rw [List.getElem?_eq_getElem hlt, hr]
      have hcell : (new.map RecV.val ++ (rl.drop k).map RecV.val)[k]? = some r.val := by
        rw [hdr, List.map_cons]
        have h := get_mid (new.map RecV.val) r.val ((rl.drop (k + 1)).map RecV.val)
        rw [List.length_map, HNL.out] at h
        exact h
      obtain ⟨g, hg, hgc⟩ := Owns.cell HO.out hcell
      obtain ⟨cur, hcur⟩ := Owns.type HO.out (b := g) (by rw [hg]; rfl)
      have hgX := (HO.out.from (b := g) (by rw [hg]; rfl)).1
      have hgc' : wr.cell? ⟨g, k, none⟩ = some (.slice r.a r.d.length r.c) := hgc
      have hkI : (k : Int) < (rl.length : Int) := by omega
      have hk0 : (0 : Int) ≤ (k : Int) := by omega
      have HDR := Lib.hid hdr
      have HGET := Lib.hid hget
      have HRI := Lib.hid (HI.out r hmem)
      have HG := Lib.hid hg
      have HCUR := Lib.hid hcur
      have hgX2 : ¬ g = X := by omega
      have HXG := Lib.hid (show X ≠ g by omega)
      subst hg
      clear hdr hr hmem hget hcell hgc hcur HG
      go_wp2_with fail
      go_region_held3 (fun w' => w'.cell? ⟨X, 4, none⟩ = some (.slice (some ⟨g, 0, none⟩) rl.length nc)) (first | with_reducible exact x4 | with_reducible exact far_cell x4 HXG.out | go_keep) ((go_at_call 29; refine (clone_bytes ((HRI.out.1.no HK.out).no (by repeat (first | with_reducible exact Kp.refl _ _ | with_reducible apply Kp.drew))) HRI.out.2 _).mono ?_; rintro e w5 ⟨ba, bc, rfl, ho5, hk5⟩; have hk5' := Kp.andThen (S := fun _ => False) (a := wr) (by repeat (first | with_reducible exact Kp.refl _ _ | with_reducible apply Kp.drew)) hk5 (fun _ _ h => h); have x4 : w5.cell? ⟨X, 4, none⟩ = some (.slice (some ⟨g, 0, none⟩) rl.length nc) := cell_of (hk5'.heap H1.out (fun h => h)) 4 rfl; have gc : w5.cell? ⟨g, k, none⟩ = some (.slice r.a r.d.length r.c) := (hk5'.cell (p := ⟨g, k, none⟩) (lt_of_block HCUR.out) (fun h => h)).trans hgc'; have gf : w5.frozen? ⟨g, k, none⟩ = false := free_of (hk5'.heap HCUR.out (fun h => h)) k; have HO5 := Lib.hid ho5; have HK5 := Lib.hid hk5'; clear ho5 hk5 hk5'))
      have hk6 : Kp (fun j => j = g) w5 (w5.setCell ⟨g, k, none⟩ (.slice ba r.d.length bc)) := (Kp.refl (fun j => j = g) _).setCell (p := ⟨g, k, none⟩) (.inl rfl) _
      have hgw : g < wr.heap.size := lt_of_block HCUR.out
      have hba : ∀ h, blockOf ba = some h → wr.heap.size ≤ h ∧ h < w5.heap.size := fun h hh => HO5.out.from hh
      have ho6 := Owns.set1 (HO.out.kp HK5.out (fun _ _ h => h)) rfl hlt (RecV.val ⟨ba, r.d, bc⟩)
      have e6 : (new.map RecV.val ++ (rl.drop k).map RecV.val).set k (RecV.val ⟨ba, r.d, bc⟩) = (new ++ [(⟨ba, r.d, bc⟩ : RecV)]).map RecV.val ++ (rl.drop (k + 1)).map RecV.val := by
        rw [HDR.out, List.map_cons]
        have h := set_mid (new.map RecV.val) r.val (RecV.val ⟨ba, r.d, bc⟩) ((rl.drop (k + 1)).map RecV.val)
        rw [List.length_map, HNL.out] at h
        rw [h, List.map_append]
        rfl
      rw [e6] at ho6
      have hcp6 : Copied (w5.setCell ⟨g, k, none⟩ (.slice ba r.d.length bc)) (X + 2) rl (new ++ [(⟨ba, r.d, bc⟩ : RecV)]) := by
        have h7 := (HCP.out.kp HK5.out (fun _ _ _ _ h => h)).kp hk6 (fun r' hr' h hh e => HFR.out r' hr' h hh (by rw [e]; rfl))
        refine ⟨by rw [List.length_append, HNL.out]; exact hlt, fun j q hq => ?_, fun q hq => ?_⟩
        · by_cases hj : j < new.length
          · rw [List.getElem?_append_left hj] at hq
            exact h7.same j q hq
          · have hjl := (List.getElem?_eq_some_iff.1 hq).1
            have hje : j = k := by rw [List.length_append, HNL.out] at hjl; have := HNL.out; simp at hjl; omega
            subst hje
            have h := get_mid new ⟨ba, r.d, bc⟩ ([] : List RecV)
            rw [HNL.out] at h
            rw [h] at hq
            cases hq
            exact ⟨r, HGET.out, rfl⟩
        · rcases List.mem_append.1 hq with hq | hq
          · exact h7.row q hq
          · simp at hq
            subst hq
            exact ⟨HO5.out.row.kp hk6 (fun h hh e => by have := hba h hh; omega), fun h hh => by have := hba h hh; have := hk6.size; exact ⟨by omega, by omega⟩⟩
      have hfr6 : ∀ r' ∈ new ++ [(⟨ba, r.d, bc⟩ : RecV)], ∀ h, blockOf r'.a = some h → blockOf (some (⟨g, 0, none⟩ : Addr)) ≠ some h := by
        intro r' hr' h hh e
        rcases List.mem_append.1 hr' with hq | hq
        · exact HFR.out r' hq h hh e
        · simp at hq
          subst hq
          have := hba h hh
          have e2 : g = h := Option.some.inj e
          omega
      have H16 := Lib.hid (hk6.heap (HK5.out.heap H1.out (fun h => h)) (fun e => HXG.out e))
      have H26 := Lib.hid (hk6.heap (HK5.out.heap H2.out (fun h => h)) (fun e => by omega))
      have HO6 := Lib.hid ho6
      have HCP6 := Lib.hid hcp6
      have HFR6 := Lib.hid hfr6
      have HK6 := Lib.hid (show Kp (fun _ => False) w (w5.setCell ⟨g, k, none⟩ (.slice ba r.d.length bc)) from (HK.out.trans HK5.out).andThen hk6 (fun i hi (e : i = g) => by have := HX.out; omega))
      have HNL6 := Lib.hid (show (new ++ [(⟨ba, r.d, bc⟩ : RecV)]).length = k + 1 by rw [List.length_append, HNL.out]; rfl)
      clear hk6 ho6 e6 hcp6 hfr6 hba
      go_wp2
      go_roundw
      case rel => exact ⟨k + 1, _, by go_num, by omega, HNL6.out, H16.out, H26.out, HO6.out, HCP6.out, HFR6.out, HK6.out⟩
      case measure => simp [intOf]; omega
    · obtain rfl : k = rl.length := by omega
      have ho := HO.out
      rw [List.drop_length, List.map_nil, List.append_nil] at ho
      have x0 : wr.cell? ⟨X, 0, none⟩ = some (.int .i64 ai) := cell_of H1.out 0 rfl
      have x1 : wr.cell? ⟨X, 1, none⟩ = some (.int .i64 ae) := cell_of H1.out 1 rfl
      have x2 : wr.cell? ⟨X, 2, none⟩ = some (.int .i64 as_) := cell_of H1.out 2 rfl
      have x3 : wr.cell? ⟨X, 3, none⟩ = some (.int .i64 an) := cell_of H1.out 3 rfl
      have x5 : wr.cell? ⟨X, 5, none⟩ = some (.int .i64 al) := cell_of H1.out 5 rfl
      have HO2 := Lib.hid ho
      clear ho HO hlt
      go_wp2_with (refine wpList_store_row rfl 47 _ _ rfl (X + 1) _ rfl rfl 47 _ H2.out (by kernel_rfl) rfl (by simp [Value.oneCell']) ?_)
      have hk7 : Kp (fun j => j = X + 1) wr (wr.setRow (X + 1) #[.int .i64 ai, .int .i64 ae, .int .i64 as_, .int .i64 an, .slice na rl.length nc, .int .i64 al]) := (Kp.refl (fun j => j = X + 1) wr).setRow (Or.inl rfl) _
      refine bodyPost_ret (v := .agg #[.int .i64 ai, .int .i64 ae, .int .i64 as_, .int .i64 an, .slice na rl.length nc, .int .i64 al]) (results_cell_row Try.results34 _ _ (X + 1) 47 _ (0, 0) _ rfl (setRow_heap _ _ _ _ _ _ H2.out) Try.underlying47 rfl (by kernel_rfl)) rfl ⟨na, new, nc, ?_, HNL.out, ?_, ?_, ?_, ?_⟩
      · show Ending.returned (.agg #[.int .i64 ai, .int .i64 ae, .int .i64 as_, .int .i64 an, .slice na rl.length nc, .int .i64 al]) = Ending.returned (.agg #[.int .i64 ai, .int .i64 ae, .int .i64 as_, .int .i64 an, .slice na new.length nc, .int .i64 al])
        rw [HNL.out]
      · have h := HCP.out.kp hk7 (fun r hr g hg e => by have := ((HCP.out.row r hr).2 g hg).1; omega)
        exact ⟨h.len, h.same, fun r hr => ⟨(h.row r hr).1, fun g hg => by have := (h.row r hr).2 g hg; have := HX.out; exact ⟨by omega, by omega⟩⟩⟩
      · exact HO2.out.row.kp hk7 (fun g hg e => by have := (HO2.out.from hg).1; omega)
      · intro g hg
        have := HO2.out.from hg
        have := HX.out
        have := hk7.size
        exact ⟨by omega, by omega⟩
      · exact HK.out.andThen hk7 (fun i hi (e : i = X + 1) => by have := HX.out; omega)
end Go.Proofs.Ytjhefbkigmamfaa
