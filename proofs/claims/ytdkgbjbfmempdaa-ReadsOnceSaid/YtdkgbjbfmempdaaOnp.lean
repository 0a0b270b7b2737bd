/-
  ReadsOnce, without the program: the maps that the law keeps, the greatest round of those that are ready. No condition.
-/
import Derived.Test.YtdkgbjbfmempdaaMaj
namespace Go.Proofs.Ytdkgbjbfmempdaa
open Go.RowKit
set_option linter.unusedVariables false

/-- The law's map of indices. -/
def pairs (l : List Rd) : List (Int × Value) := l.map fun r => (r.id, .int .i64 r.ix)
theorem pairs_keys (l : List Rd) : (pairs l).map (·.1) = ids l := by simp [pairs, ids]
theorem pairs_length (l : List Rd) : (pairs l).length = l.length := by simp [pairs]
theorem up_nodup {l : List Rd} {i : Nat} (h : Up l i) : (ids l).Nodup := h.up.imp (fun h => by omega)
theorem getm_pairs : ∀ (l : List Rd), (ids l).Nodup → ∀ r ∈ l, getm (pairs l) r.id = some (.int .i64 r.ix)
  | [], _, r, hr => by simp at hr
  | x :: l, hn, r, hr => by
    have hn' : x.id ∉ ids l ∧ (ids l).Nodup := by simpa [ids] using hn
    show (if r.id = x.id then some (.int .i64 x.ix) else getm (pairs l) r.id) = _
    rcases List.mem_cons.1 hr with rfl | hr
    · rw [if_pos rfl]
    · rw [if_neg (fun e : r.id = x.id => hn'.1 (List.mem_map.2 ⟨r, hr, e⟩))]
      exact getm_pairs l hn'.2 r hr
theorem pairs_snoc (l : List Rd) (r : Rd) (h : r.id ∉ ids l) : putm (pairs l) r.id (.int .i64 r.ix) = pairs (l ++ [r]) := by
  rw [putm_new (by rw [pairs_keys]; exact h)]
  simp [pairs]
theorem delm_pairs (k : Int) : ∀ (l : List Rd), (ids l).Nodup → delm (pairs l) k = pairs (l.filter fun r => decide (r.id ≠ k))
  | [], _ => rfl
  | x :: l, hn => by
    have hn' : x.id ∉ ids l ∧ (ids l).Nodup := by simpa [ids] using hn
    show (if k = x.id then pairs l else (x.id, .int .i64 x.ix) :: delm (pairs l) k) = _
    by_cases h : k = x.id
    · rw [if_pos h, List.filter_cons_of_neg (by simp [h])]
      congr 1
      symm
      rw [List.filter_eq_self]
      intro r hr
      simp only [decide_eq_true_eq]
      exact fun e => hn'.1 (h ▸ e ▸ List.mem_map.2 ⟨r, hr, rfl⟩)
    · rw [if_neg h, List.filter_cons_of_pos (by simpa using fun e => h e.symm), delm_pairs k l hn'.2]
      rfl
/-- Those whose numbers are not among F's. -/
def less (F l : List Rd) : List Rd := l.filter fun r => decide (r.id ∉ ids F)
theorem less_nil (l : List Rd) : less [] l = l := by
  unfold less
  rw [List.filter_eq_self]
  intro r _
  simp [ids]
theorem ids_less {F l : List Rd} (h : (ids l).Nodup) : (ids (less F l)).Nodup := List.Nodup.sublist ((List.filter_sublist).map _) h
theorem less_snoc (F l : List Rd) (x : Rd) : less (F ++ [x]) l = (less F l).filter fun r => decide (r.id ≠ x.id) := by
  unfold less
  rw [List.filter_filter]
  congr 1
  funext r
  have e : ids (F ++ [x]) = ids F ++ [x.id] := by simp [ids]
  rw [e]
  by_cases h1 : r.id ∈ ids F <;> by_cases h2 : r.id = x.id <;> simp [h1, h2]
theorem ids_inj {l : List Rd} (h : (ids l).Nodup) {r x : Rd} (hr : r ∈ l) (hx : x ∈ l) (e : r.id = x.id) : r = x := by
  obtain ⟨i, hi, rfl⟩ := List.getElem_of_mem hr
  obtain ⟨j, hj, rfl⟩ := List.getElem_of_mem hx
  obtain rfl := nodup_inj h (i := i) (j := j) (by rw [ids_length]; exact hi) (by rw [ids_length]; exact hj) (by simpa [ids] using e)
  rfl
theorem less_filter (p : Rd → Bool) {l : List Rd} (h : (ids l).Nodup) : less (l.filter p) l = keep p l := by
  unfold less keep
  apply List.filter_congr
  intro r hr
  by_cases hp : p r = true
  · rw [hp, decide_eq_false]
    · rfl
    · intro hn
      exact hn (List.mem_map.2 ⟨r, List.mem_filter.2 ⟨hr, hp⟩, rfl⟩)
  · rw [Bool.eq_false_iff.2 hp, decide_eq_true]
    · rfl
    · intro hm
      obtain ⟨x, hx, e⟩ := List.mem_map.1 hm
      obtain ⟨hx1, hx2⟩ := List.mem_filter.1 hx
      exact hp (ids_inj h hr hx1 e.symm ▸ hx2)
/-- The next one that is ready is still in the map. -/
theorem less_next {F : List Rd} (hF : (ids F).Nodup) (j : Nat) (hj : j < F.length) {l : List Rd} (hl : (ids l).Nodup) (hm : F[j] ∈ l) : getm (pairs (less (F.take j) l)) F[j].id = some (.int .i64 F[j].ix) := by
  refine getm_pairs _ (ids_less hl) _ (List.mem_filter.2 ⟨hm, ?_⟩)
  rw [decide_eq_true_eq]
  intro h
  obtain ⟨x, hx, e⟩ := List.mem_map.1 h
  obtain ⟨i, hi, rfl⟩ := List.getElem_of_mem hx
  rw [List.getElem_take] at e
  have hi' : i < j := by rw [List.length_take] at hi; omega
  have h1 : (ids F)[i]'(by rw [ids_length]; omega) = (ids F)[j]'(by rw [ids_length]; omega) := by simpa [ids] using e
  have := nodup_inj hF _ _ h1
  omega
theorem less_del {F : List Rd} (j : Nat) (hj : j < F.length) {l : List Rd} (hl : (ids l).Nodup) : delm (pairs (less (F.take j) l)) F[j].id = pairs (less (F.take (j + 1)) l) := by
  rw [List.take_succ_eq_append_getElem hj, less_snoc, delm_pairs _ _ (ids_less hl)]

/-- The greatest round. -/
def mostOf : List Rd → Int
  | [] => -1
  | r :: l => max r.rd (mostOf l)
def mostTo (l : List Rd) : Nat → Int
  | 0 => -1
  | k + 1 => max (mostTo l k) (l.getD k default).rd
theorem mostTo_lt (l : List Rd) (x : Int) (h : ∀ r ∈ l, r.rd < x) (h0 : 0 ≤ x) : ∀ k, k ≤ l.length → mostTo l k < x
  | 0, _ => by unfold mostTo; omega
  | k + 1, hk => by
    have ih := mostTo_lt l x h h0 k (by omega)
    have e : l.getD k default = l[k] := by simp [List.getD, List.getElem?_eq_getElem (show k < l.length by omega)]
    have hr := h _ (List.getElem_mem (show k < l.length by omega))
    unfold mostTo
    rw [e]
    omega

theorem among_mono {l y y' : List Int} (h : ∀ z, z ∈ y → z ∈ y') : among l y ≤ among l y' := by
  unfold among
  exact List.countP_mono_left (fun x _ hx => by simpa using h x (by simpa using hx))
theorem won_mono {s y y' : List Int} (h : ∀ z, z ∈ y → z ∈ y') (hw : won s y = true) : won s y' = true := by
  unfold won cnt at hw ⊢
  rw [decide_eq_true_eq] at hw ⊢
  have := among_mono (l := once s) h
  omega
/-- Who waits on waits for a later round than those that are ready. -/
theorem later {zs : List Int} {me : Int} {h : Nat → Int} {r t : Rd} (hr : won zs (yes me h r.rd) = false) (ht : won zs (yes me h t.rd) = true) : t.rd < r.rd := by
  refine Int.lt_of_not_ge fun hge => ?_
  have := won_mono (y' := yes me h r.rd) (fun z hz => ?_) ht
  · rw [this] at hr
    cases hr
  · unfold yes at hz ⊢
    rw [mem_yesK] at hz ⊢
    rcases hz with e | ⟨j, h1, h2, h3⟩
    · exact .inl e
    · exact .inr ⟨j, h1, h2, by omega⟩
/-- All that the law asks of those that are ready, and of the others. -/
theorem ready_facts {l : List Rd} {k : Nat} (hu : Up l k) {m : List (Int × Value)} (hr : ∀ r ∈ l, getm m r.id = some (.int .i64 r.rd) ∧ 0 ≤ r.rd) (zs : List Int) (me : Int) (h : Nat → Int) :
    ∃ (N : Nat) (q : Nat → Rd) (P : Nat → List (Int × Value)) (R : Nat → Int), (toldAll (fun r => won zs (yes me h r.rd)) l).length = N ∧ N ≤ k ∧ (∀ j, j < N → (toldAll (fun r => won zs (yes me h r.rd)) l).getD j default = ((q j).id, (q j).ix)) ∧
      P 0 = pairs l ∧ P N = pairs (keep (fun r => won zs (yes me h r.rd)) l) ∧ R 0 = -1 ∧ (∀ j, R (j + 1) = max (R j) (q j).rd) ∧
      (∀ j, j < N → getm (P j) (q j).id = some (.int .i64 (q j).ix) ∧ delm (P j) (q j).id = P (j + 1) ∧ getm m (q j).id = some (.int .i64 (q j).rd)) ∧
      (∀ r ∈ keep (fun r => won zs (yes me h r.rd)) l, R N < r.rd ∧ getm m r.id = some (.int .i64 r.rd)) := by
  generalize hp : (fun r : Rd => won zs (yes me h r.rd)) = p
  have hn := up_nodup hu
  have hF : (ids (l.filter p)).Nodup := List.Nodup.sublist ((List.filter_sublist).map _) hn
  have hmem : ∀ j (hj : j < (l.filter p).length), (l.filter p)[j] ∈ l := fun j hj => (List.mem_filter.1 (List.getElem_mem hj)).1
  have hq : ∀ j (hj : j < (l.filter p).length), (l.filter p).getD j default = (l.filter p)[j] := fun j hj => by simp [List.getD, List.getElem?_eq_getElem hj]
  refine ⟨(l.filter p).length, fun j => (l.filter p).getD j default, fun j => pairs (less ((l.filter p).take j) l), mostTo (l.filter p), by simp [toldAll], Nat.le_trans (List.length_filter_le _ _) hu.le, fun j hj => ?_, ?_, ?_, rfl, fun j => rfl, fun j hj => ?_, fun r hr' => ?_⟩
  · show ((l.filter p).map fun r => (r.id, r.ix)).getD j default = _
    simp only [hq j hj]
    simp [List.getD, List.getElem?_eq_getElem hj]
  · show pairs (less ((l.filter p).take 0) l) = _
    rw [List.take_zero, less_nil]
  · show pairs (less ((l.filter p).take (l.filter p).length) l) = _
    rw [List.take_length, less_filter p hn]
  · simp only [hq j hj]
    exact ⟨less_next hF j hj hn (hmem j hj), less_del j hj hn, (hr _ (hmem j hj)).1⟩
  · obtain ⟨h1, h2⟩ := List.mem_filter.1 hr'
    have h2' : p r = false := by simpa using h2
    refine ⟨mostTo_lt _ _ (fun t ht => ?_) (hr r h1).2 _ (Nat.le_refl _), (hr r h1).1⟩
    have h3 := (List.mem_filter.1 ht).2
    subst hp
    exact later h2' h3
end Go.Proofs.Ytdkgbjbfmempdaa
