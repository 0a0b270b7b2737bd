/-
  Maps with int keys: the runs of the look-up, the store, delete, len, range and next, and the laws by which a walk takes them. For every program whose key type is int.
-/
import Derived.Test.YtjhefbkigmamfaaImap
namespace Go.Proofs.Ytjhefbkigmamfaa
open Go.RowKit
open Go.ChangeMaps (setBlock)
set_option linter.unusedVariables false

theorem fits_empty : Fits #[] 0 [] := ⟨by simp, by simp, by simp, by simp⟩
theorem imap_made (w : World) : IMap (w.alloc (.map #[] 0)) w.heap.size [] := ⟨_, _, heap_new _ _, fits_empty⟩
theorem IMap.lt {w : World} {b : Nat} {m : List (Int × Value)} (h : IMap w b m) : b < w.heap.size := by
  obtain ⟨es, c, hb, _⟩ := h
  exact lt_of_block hb
theorem IMap.kp {S : Nat → Prop} {w w' : World} {b : Nat} {m : List (Int × Value)} (h : IMap w b m) (k : Kp S w w') (hn : ¬ S b) : IMap w' b m := by
  obtain ⟨es, c, hb, F⟩ := h
  exact ⟨es, c, k.heap hb hn, F⟩
theorem heap_setBlock {w : World} {b : Nat} {o o' : Obj} (hb : w.heap[b]? = some o) : (setBlock w b o').heap[b]? = some o' := (MapKept.heap_set hb).1
theorem kp_setBlock {w : World} {b : Nat} {o o' : Obj} (hb : w.heap[b]? = some o) : Kp (fun k => k = b) w (setBlock w b o') :=
  ⟨rfl, rfl, rfl, by simp [setBlock], fun k _ hn => (MapKept.heap_set hb).2 k hn⟩

section
variable {P : Program} {t kt et : TypeId} (ht : P.underlying t = some (.map kt et)) (hk : P.underlying kt = some (.int .i64))
include ht hk

theorem run_lookup_i {w : World} {b : Nat} {m : List (Int × Value)} (h : IMap w b m) {z : Value} (hz : ∀ w : World, (zeroValue et).run P w = .ok z w) (k : Int) (ok : Bool) :
    (Instr.lookup t (.map (some b)) (.int .i64 k) ok).run P w = .ok (if ok then .tuple #[(getm m k).getD z, .bool (getm m k).isSome] else (getm m k).getD z) w := by
  obtain ⟨es, c, hb, F⟩ := h
  have hf := findNow_fnd k es.toList m 0 F.ents
  have hg := fnd_getm k m 0
  unfold Instr.lookup
  simp only [Sem.run_bind, run_underlying ht, Result.andThen, MapKept.run_getObj_map hb, Sem.run_pure, MapKept.run_checkKey hk (show MapKept.IsKey (.int .i64) (.int .i64 k) from rfl), MapKept.run_findKey hk hf]
  rw [← hg]
  cases hx : fnd k m 0 with
  | none =>
    simp only [Sem.run_bind, hz, Result.andThen, Option.map_none, Sem.run_pure]
    cases ok <;> rfl
  | some p =>
    simp only [Sem.run_bind, Result.andThen, Option.map_some, Sem.run_pure]
    cases ok <;> rfl

theorem run_update_i {w : World} {b : Nat} {m : List (Int × Value)} (h : IMap w b m) (k : Int) (v : Value) :
    ∃ w', (Instr.mapUpdate t (.map (some b)) (.int .i64 k) v).run P w = .ok () w' ∧ IMap w' b (putm m k v) ∧ Kp (fun j => j = b) w w' := by
  obtain ⟨es, c, hb, F⟩ := h
  have hf := findNow_fnd k es.toList m 0 F.ents
  unfold Instr.mapUpdate
  simp only [Sem.run_bind, run_underlying ht, Result.andThen, MapKept.run_getObj_map hb, MapKept.run_checkKey hk (show MapKept.IsKey (.int .i64) (.int .i64 k) from rfl), MapKept.run_findKey hk hf]
  cases hx : fnd k m 0 with
  | none =>
    have hnot := fnd_none.1 hx
    refine ⟨_, MapKept.run_setObj_map _ hb, ⟨_, _, heap_setBlock hb, ?_⟩, kp_setBlock hb⟩
    refine ⟨?_, ?_, ?_, ?_⟩
    · rw [putm_new hnot]; simp [F.ents]
    · rw [Array.toList_push, List.map_append, List.nodup_append]
      refine ⟨F.born, by simp, ?_⟩
      intro a ha b' hb'
      simp at hb'
      subst hb'
      obtain ⟨e, he, rfl⟩ := List.mem_map.1 ha
      have := F.lt e he
      omega
    · intro e he
      rw [Array.toList_push, List.mem_append] at he
      rcases he with he | he
      · have := F.lt e he; omega
      · simp at he; subst he; exact Nat.lt_succ_self _
    · rw [putm_new hnot, List.map_append, List.nodup_append]
      refine ⟨F.keys, by simp, ?_⟩
      intro a ha b' hb'
      simp at hb'
      subst hb'
      exact fun e => hnot (e ▸ ha)
  | some p =>
    obtain ⟨i, u⟩ := p
    have hin : k ∈ m.map (·.1) := by
      rcases Classical.em (k ∈ m.map (·.1)) with h | h
      · exact h
      · rw [fnd_none.2 h] at hx; cases hx
    have hi : ∀ (m : List (Int × Value)) (j x : Nat) (u : Value), fnd k m j = some (x, u) → j ≤ x ∧ ∃ y, m[x - j]? = some (k, y) := by
      intro m
      induction m with
      | nil => intro i x u h; simp [fnd] at h
      | cons p r ih =>
        intro i x u h
        unfold fnd at h
        split at h
        · rename_i e
          simp at h
          obtain ⟨rfl, rfl⟩ := h
          exact ⟨Nat.le_refl _, p.2, by simp [e]⟩
        · obtain ⟨h1, y, h2⟩ := ih _ _ _ h
          refine ⟨by omega, y, ?_⟩
          rw [show x - i = (x - (i + 1)) + 1 by omega]
          simpa using h2
    obtain ⟨_, y, hy⟩ := hi m 0 i u hx
    have hes : (es[i]?).map (·.key) = some (.int .i64 k) := by
      have h1 : (es.toList.map (fun e => (e.key, e.val)))[i]? = some (.int .i64 k, y) := by rw [F.ents, List.getElem?_map, show i = i - 0 by omega, hy]; rfl
      rw [List.getElem?_map, Option.map_eq_some_iff] at h1
      obtain ⟨e, he, h2⟩ := h1
      rw [Array.getElem?_toList] at he
      rw [he]
      simp only [Prod.mk.injEq] at h2
      simp [h2.1]
    have hstay : (Instr.keyThatStays (((es[i]?).map (·.key)).getD (.int .i64 k)) (.int .i64 k)).run P w = .ok (.int .i64 k) w := by
      rw [hes]
      simp [Instr.keyThatStays, Instr.sameBits]
    simp only [Sem.run_bind, hstay, Result.andThen]
    refine ⟨_, MapKept.run_setObj_map _ hb, ⟨_, _, heap_setBlock hb, ?_⟩, kp_setBlock hb⟩
    have hborn : ∀ j : Nat, ((es.modify i fun e => { e with key := .int .i64 k, val := v })[j]?).map MapEntry.born = (es[j]?).map MapEntry.born := by
      intro j
      rw [Array.getElem?_modify]
      split
      · cases es[j]? <;> rfl
      · rfl
    have hbl : (es.modify i fun e => { e with key := .int .i64 k, val := v }).toList.map MapEntry.born = es.toList.map MapEntry.born := by
      apply List.ext_getElem?
      intro j
      simp only [List.getElem?_map, Array.getElem?_toList]
      exact hborn j
    refine ⟨?_, ?_, ?_, ?_⟩
    · rw [Array.toList_modify]
      exact fnd_modify k v _ (fun e => ⟨rfl, rfl⟩) es.toList m 0 i u F.ents (by rw [Nat.zero_add]; exact hx)
    · rw [hbl]; exact F.born
    · intro e he
      have : e.born ∈ (es.modify i fun e => { e with key := .int .i64 k, val := v }).toList.map MapEntry.born := List.mem_map_of_mem he
      rw [hbl] at this
      obtain ⟨e', he', h2⟩ := List.mem_map.1 this
      rw [← h2]
      exact F.lt e' he'
    · rw [putm_keys hin]; exact F.keys

theorem run_delete_i {w : World} {b : Nat} {m : List (Int × Value)} (h : IMap w b m) (k : Int) (ty : TypeId) (k' : TypeId) :
    ∃ w', (Builtin.delete_ #[t, k'] ty #[.map (some b), .int .i64 k]).run P w = .ok (.tuple #[]) w' ∧ IMap w' b (delm m k) ∧ Kp (fun j => j = b) w w' := by
  obtain ⟨es, c, hb, F⟩ := h
  have hf := findNow_fnd k es.toList m 0 F.ents
  unfold Builtin.delete_
  simp only [List.getElem?_toArray, List.getElem?_cons_zero, List.getElem?_cons_succ, Sem.run_bind, run_underlying ht, Result.andThen, MapKept.run_getObj_map hb, MapKept.run_checkKey hk (show MapKept.IsKey (.int .i64) (.int .i64 k) from rfl), MapKept.run_findKey hk hf]
  cases hx : fnd k m 0 with
  | none =>
    have hnot := fnd_none.1 hx
    simp only [Sem.run_bind, MapKept.run_setObj_map _ hb, Result.andThen, Sem.run_pure]
    refine ⟨_, rfl, ⟨_, _, heap_setBlock hb, ?_⟩, kp_setBlock hb⟩
    rw [delm_new hnot]; exact F
  | some p =>
    obtain ⟨i, u⟩ := p
    simp only [Sem.run_bind, MapKept.run_setObj_map _ hb, Result.andThen, Sem.run_pure]
    refine ⟨_, rfl, ⟨_, _, heap_setBlock hb, ?_⟩, kp_setBlock hb⟩
    have hl : (es.eraseIdxIfInBounds i).toList = es.toList.eraseIdx i := by
      unfold Array.eraseIdxIfInBounds
      split
      · simp
      · rename_i hn; rw [List.eraseIdx_of_length_le (by simpa using hn)]
    refine ⟨?_, ?_, ?_, ?_⟩
    · rw [hl]; exact fnd_erase k es.toList m 0 i u F.ents (by rw [Nat.zero_add]; exact hx)
    · rw [hl]; exact (List.Sublist.map _ (List.eraseIdx_sublist _ _)).nodup F.born
    · intro e he; rw [hl] at he; exact F.lt e (List.mem_of_mem_eraseIdx he)
    · exact delm_nodup k m F.keys

omit hk in
theorem run_len_i {w : World} {b : Nat} {m : List (Int × Value)} (h : IMap w b m) (ty : TypeId) :
    (Builtin.len_ #[t] ty #[.map (some b)]).run P w = .ok (.int .i64 m.length) w := by
  obtain ⟨es, c, hb, F⟩ := h
  have hs : es.size = m.length := by
    have := congrArg List.length F.ents
    simpa using this
  simp [Builtin.len_, run_underlying ht, MapKept.run_getObj_map hb, goInt, hs]
end
end Go.Proofs.Ytjhefbkigmamfaa
