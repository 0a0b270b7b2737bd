/-
  Maps with int keys, whatever their elements: what a block holds ('IMap w b m': the entries in the order in which they came), and what the look-up, the store, delete, len and range do. For every program whose key type is int.
-/
import Derived.Test.YtjhefbkigmamfaaBase
import Derived.Maps.OwnOps
import Derived.Maps.OwnSet
import Derived.Maps.RangeWalk
namespace Go.Proofs.Ytjhefbkigmamfaa
open Go.RowKit
set_option linter.unusedVariables false

structure Fits (es : Array MapEntry) (clock : Nat) (m : List (Int × Value)) : Prop where
  ents : es.toList.map (fun e => (e.key, e.val)) = m.map (fun p => (Value.int .i64 p.1, p.2))
  born : (es.toList.map (·.born)).Nodup
  lt : ∀ e ∈ es.toList, e.born < clock
  keys : (m.map (·.1)).Nodup

/-- Block b is a map whose entries, as they came, are m. -/
def IMap (w : World) (b : Nat) (m : List (Int × Value)) : Prop := ∃ es clock, w.heap[b]? = some (.map es clock) ∧ Fits es clock m

def getm : List (Int × Value) → Int → Option Value
  | [], _ => none
  | p :: r, k => if k = p.1 then some p.2 else getm r k
def putm : List (Int × Value) → Int → Value → List (Int × Value)
  | [], k, v => [(k, v)]
  | p :: r, k, v => if k = p.1 then (k, v) :: r else p :: putm r k v
def delm : List (Int × Value) → Int → List (Int × Value)
  | [], _ => []
  | p :: r, k => if k = p.1 then r else p :: delm r k
def fnd (k : Int) : List (Int × Value) → Nat → Option (Nat × Value)
  | [], _ => none
  | p :: r, i => if k = p.1 then some (i, p.2) else fnd k r (i + 1)

theorem findNow_fnd (k : Int) : ∀ (l : List MapEntry) (m : List (Int × Value)) (i : Nat), l.map (fun e => (e.key, e.val)) = m.map (fun p => (Value.int .i64 p.1, p.2)) →
    Instr.findNow (.int .i64) (.int .i64 k) l i = some (fnd k m i)
  | [], [], _, _ => rfl
  | [], _ :: _, _, h => by simp at h
  | _ :: _, [], _, h => by simp at h
  | e :: l, p :: m, i, h => by
    simp only [List.map_cons, List.cons.injEq, Prod.mk.injEq] at h
    obtain ⟨⟨hk, hv⟩, hr⟩ := h
    unfold Instr.findNow
    rw [hk]
    simp only [Instr.sameNow, if_true]
    by_cases e1 : k = p.1
    · simp [e1, fnd, hv]
    · have : (k == p.1) = false := by simp [e1]
      rw [this]
      simp only [fnd, if_neg e1]
      exact findNow_fnd k l m (i + 1) hr

theorem fnd_getm (k : Int) : ∀ (m : List (Int × Value)) (i : Nat), (fnd k m i).map (·.2) = getm m k
  | [], _ => rfl
  | p :: r, i => by
    unfold fnd getm
    split
    · rfl
    · exact fnd_getm k r (i + 1)
theorem fnd_none {k : Int} : ∀ {m : List (Int × Value)} {i : Nat}, fnd k m i = none ↔ k ∉ m.map (·.1)
  | [], _ => by simp [fnd]
  | p :: r, i => by
    unfold fnd
    by_cases e : k = p.1
    · simp [e]
    · simp only [if_neg e, List.map_cons, List.mem_cons, not_or]
      rw [fnd_none (m := r) (i := i + 1)]
      simp [e]
theorem getm_none {k : Int} {m : List (Int × Value)} : getm m k = none ↔ k ∉ m.map (·.1) := by
  rw [← fnd_getm k m 0, Option.map_eq_none_iff, fnd_none]
theorem putm_new {k : Int} {v : Value} : ∀ {m : List (Int × Value)}, k ∉ m.map (·.1) → putm m k v = m ++ [(k, v)]
  | [], _ => rfl
  | p :: r, h => by
    simp only [List.map_cons, List.mem_cons, not_or] at h
    simp only [putm, if_neg h.1, List.cons_append]
    rw [putm_new h.2]
theorem delm_new {k : Int} : ∀ {m : List (Int × Value)}, k ∉ m.map (·.1) → delm m k = m
  | [], _ => rfl
  | p :: r, h => by
    simp only [List.map_cons, List.mem_cons, not_or] at h
    simp only [delm, if_neg h.1]
    rw [delm_new h.2]
theorem putm_keys {k : Int} {v : Value} : ∀ {m : List (Int × Value)}, k ∈ m.map (·.1) → (putm m k v).map (·.1) = m.map (·.1)
  | [], h => by simp at h
  | p :: r, h => by
    by_cases e : k = p.1
    · simp [putm, e]
    · simp only [List.map_cons, List.mem_cons] at h
      simp only [putm, if_neg e, List.map_cons]
      rw [putm_keys (h.resolve_left e)]
theorem getm_putm (k : Int) (v : Value) (x : Int) : ∀ (m : List (Int × Value)), getm (putm m k v) x = if x = k then some v else getm m x
  | [] => by simp [putm, getm]
  | p :: r => by
    by_cases e : k = p.1
    · simp only [putm, if_pos e, getm]
      by_cases h : x = k
      · simp [h]
      · rw [if_neg h, if_neg h, if_neg (by rw [← e]; exact h)]
    · simp only [putm, if_neg e, getm, getm_putm k v x r]
      by_cases h : x = p.1
      · rw [if_pos h, if_pos h, if_neg (by rw [h]; exact fun h' => e h'.symm)]
      · rw [if_neg h, if_neg h]
theorem getm_delm (k : Int) (x : Int) : ∀ (m : List (Int × Value)), (m.map (·.1)).Nodup → getm (delm m k) x = if x = k then none else getm m x
  | [], _ => by simp [delm, getm]
  | p :: r, h => by
    simp only [List.map_cons, List.nodup_cons] at h
    by_cases e : k = p.1
    · simp only [delm, if_pos e, getm]
      by_cases hx : x = k
      · rw [if_pos hx, getm_none, hx, e]; exact h.1
      · rw [if_neg hx, if_neg (by rw [← e]; exact hx)]
    · simp only [delm, if_neg e, getm, getm_delm k x r h.2]
      by_cases hx : x = p.1
      · rw [if_pos hx, if_pos hx, if_neg (by rw [hx]; exact fun h' => e h'.symm)]
      · rw [if_neg hx, if_neg hx]

/-- What a found entry's place is. -/
theorem fnd_modify (k : Int) (v : Value) (f : MapEntry → MapEntry) (hf : ∀ e, (f e).key = .int .i64 k ∧ (f e).val = v) : ∀ (l : List MapEntry) (m : List (Int × Value)) (i j : Nat) (u : Value),
    l.map (fun e => (e.key, e.val)) = m.map (fun p => (Value.int .i64 p.1, p.2)) → fnd k m i = some (i + j, u) →
    (l.modify j f).map (fun e => (e.key, e.val)) = (putm m k v).map (fun p => (Value.int .i64 p.1, p.2))
  | [], [], _, _, _, _, h => by simp [fnd] at h
  | [], _ :: _, _, _, _, h, _ => by simp at h
  | _ :: _, [], _, _, _, h, _ => by simp at h
  | e :: l, p :: m, i, j, u, h, hj => by
    simp only [List.map_cons, List.cons.injEq] at h
    unfold fnd at hj
    by_cases e1 : k = p.1
    · rw [if_pos e1] at hj
      simp only [Option.some.injEq, Prod.mk.injEq] at hj
      obtain rfl : j = 0 := by omega
      simp only [List.modify_zero_cons, putm, if_pos e1, List.map_cons, (hf e).1, (hf e).2, h.2]
    · rw [if_neg e1] at hj
      have hi : ∀ (m : List (Int × Value)) (i x : Nat) (u : Value), fnd k m i = some (x, u) → i ≤ x := by
        intro m
        induction m with
        | nil => intro i x u h; simp [fnd] at h
        | cons p r ih =>
          intro i x u h
          unfold fnd at h
          split at h
          · simp at h; omega
          · have := ih _ _ _ h; omega
      have := hi _ _ _ _ hj
      obtain ⟨j', rfl⟩ : ∃ j', j = j' + 1 := ⟨j - 1, by omega⟩
      simp only [List.modify_succ_cons, putm, if_neg e1, List.map_cons]
      rw [fnd_modify k v f hf l m (i + 1) j' u h.2 (by rw [hj]; congr 2; omega), h.1]
theorem fnd_erase (k : Int) : ∀ (l : List MapEntry) (m : List (Int × Value)) (i j : Nat) (u : Value),
    l.map (fun e => (e.key, e.val)) = m.map (fun p => (Value.int .i64 p.1, p.2)) → fnd k m i = some (i + j, u) →
    (l.eraseIdx j).map (fun e => (e.key, e.val)) = (delm m k).map (fun p => (Value.int .i64 p.1, p.2))
  | [], [], _, _, _, _, h => by simp [fnd] at h
  | [], _ :: _, _, _, _, h, _ => by simp at h
  | _ :: _, [], _, _, _, h, _ => by simp at h
  | e :: l, p :: m, i, j, u, h, hj => by
    simp only [List.map_cons, List.cons.injEq] at h
    unfold fnd at hj
    by_cases e1 : k = p.1
    · rw [if_pos e1] at hj
      simp only [Option.some.injEq, Prod.mk.injEq] at hj
      obtain rfl : j = 0 := by omega
      simp only [List.eraseIdx_cons_zero, delm, if_pos e1, h.2]
    · rw [if_neg e1] at hj
      have hi : ∀ (m : List (Int × Value)) (i x : Nat) (u : Value), fnd k m i = some (x, u) → i ≤ x := by
        intro m
        induction m with
        | nil => intro i x u h; simp [fnd] at h
        | cons p r ih =>
          intro i x u h
          unfold fnd at h
          split at h
          · simp at h; omega
          · have := ih _ _ _ h; omega
      have := hi _ _ _ _ hj
      obtain ⟨j', rfl⟩ : ∃ j', j = j' + 1 := ⟨j - 1, by omega⟩
      simp only [List.eraseIdx_cons_succ, delm, if_neg e1, List.map_cons]
      rw [fnd_erase k l m (i + 1) j' u h.2 (by rw [hj]; congr 2; omega), h.1]
theorem delm_keys (k : Int) : ∀ (m : List (Int × Value)), ∀ x, x ∈ (delm m k).map (·.1) → x ∈ m.map (·.1)
  | [], x, h => by simp [delm] at h
  | p :: r, x, h => by
    unfold delm at h
    split at h
    · exact List.mem_cons_of_mem _ h
    · simp only [List.map_cons, List.mem_cons] at h ⊢
      exact h.imp id (delm_keys k r x)
theorem delm_nodup (k : Int) : ∀ (m : List (Int × Value)), (m.map (·.1)).Nodup → ((delm m k).map (·.1)).Nodup
  | [], _ => by simp [delm]
  | p :: r, h => by
    simp only [List.map_cons, List.nodup_cons] at h
    unfold delm
    split
    · exact h.2
    · simp only [List.map_cons, List.nodup_cons]
      exact ⟨fun hx => h.1 (delm_keys k r _ hx), delm_nodup k r h.2⟩
end Go.Proofs.Ytjhefbkigmamfaa
