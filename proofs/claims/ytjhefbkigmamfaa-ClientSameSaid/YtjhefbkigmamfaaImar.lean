/-
  Maps with int keys: the range over one, and the laws by which a walk takes the look-up, the store, delete, len, range and next. For every program whose key type is int.
-/
import Derived.Test.YtjhefbkigmamfaaImaq
namespace Go.Proofs.Ytjhefbkigmamfaa
open Go.RowKit
open Go.ChangeMaps (setBlock)
set_option linter.unusedVariables false

/-- Block b is the map m; block r is an iterator over it that has handed out the keys 'done'. -/
def Rng (w : World) (b r : Nat) (m : List (Int × Value)) (done : List Int) : Prop :=
  ∃ es clock seen, w.heap[b]? = some (.map es clock) ∧ Fits es clock m ∧ w.heap[r]? = some (.mapIter (some b) clock seen clock) ∧ seen.size = done.length ∧ done.Nodup ∧ (∀ k ∈ done, k ∈ m.map (·.1)) ∧
    ∀ e ∈ es.toList, ∀ k, e.key = .int .i64 k → (seen.contains e.born = true ↔ k ∈ done)

theorem nodup_sub_length : ∀ {l l' : List Int}, l.Nodup → (∀ x ∈ l, x ∈ l') → l.length ≤ l'.length
  | [], _, _, _ => Nat.zero_le _
  | x :: l, l', h, hs => by
    simp only [List.nodup_cons] at h
    have hx := hs x (List.mem_cons_self ..)
    have := nodup_sub_length (l := l) (l' := l'.erase x) h.2 (fun y hy => by
      have hne : y ≠ x := fun e => h.1 (e ▸ hy)
      exact (List.mem_erase_of_ne hne).2 (hs y (List.mem_cons_of_mem _ hy)))
    rw [List.length_erase_of_mem hx] at this
    have hp : 0 < l'.length := List.length_pos_of_mem hx
    simp only [List.length_cons]
    omega
theorem Rng.le {w : World} {b r : Nat} {m : List (Int × Value)} {done : List Int} (h : Rng w b r m done) : done.length ≤ m.length := by
  obtain ⟨es, c, seen, hb, F, hr, hs, hn, hd, he⟩ := h
  have := nodup_sub_length hn hd
  simpa using this
theorem Rng.seen {w : World} {b r : Nat} {m : List (Int × Value)} {done : List Int} (h : Rng w b r m done) : (w.iterSeen r).size = done.length := by
  obtain ⟨es, c, seen, hb, F, hr, hs, _⟩ := h
  simp [World.iterSeen, hr, hs]
theorem Rng.kp {S : Nat → Prop} {w w' : World} {b r : Nat} {m : List (Int × Value)} {done : List Int} (h : Rng w b r m done) (k : Kp S w w') (hb : ¬ S b) (hr : ¬ S r) : Rng w' b r m done := by
  obtain ⟨es, c, seen, h1, F, h2, rest⟩ := h
  exact ⟨es, c, seen, k.heap h1 hb, F, k.heap h2 hr, rest⟩

theorem nodup_inj {α : Type} {l : List α} (h : l.Nodup) {i j : Nat} (hi : i < l.length) (hj : j < l.length) (e : l[i] = l[j]) : i = j := by
  rcases Nat.lt_trichotomy i j with h1 | h1 | h1
  · exact absurd e (List.pairwise_iff_getElem.1 h i j hi hj h1)
  · exact h1
  · exact absurd e.symm (List.pairwise_iff_getElem.1 h j i hj hi h1)
theorem nodup_ints {l : List Int} (h : l.Nodup) : (l.map (fun x => Value.int .i64 x)).Nodup := by
  rw [List.nodup_iff_pairwise_ne, List.pairwise_map]
  exact (List.nodup_iff_pairwise_ne.1 h).imp fun hab e => hab (by simpa using e)

theorem mem_ents {es : Array MapEntry} {clock : Nat} {m : List (Int × Value)} (F : Fits es clock m) {e : MapEntry} (he : e ∈ es.toList) : ∃ k, e.key = .int .i64 k ∧ (k, e.val) ∈ m := by
  have h1 : (e.key, e.val) ∈ es.toList.map (fun e => (e.key, e.val)) := List.mem_map_of_mem (f := fun e : MapEntry => (e.key, e.val)) he
  rw [F.ents] at h1
  obtain ⟨p, hp, h2⟩ := List.mem_map.1 h1
  simp only [Prod.mk.injEq] at h2
  exact ⟨p.1, h2.1.symm, by rw [← h2.2]; exact hp⟩
theorem ent_of {es : Array MapEntry} {clock : Nat} {m : List (Int × Value)} (F : Fits es clock m) {k : Int} (hk : k ∈ m.map (·.1)) : ∃ e ∈ es.toList, e.key = .int .i64 k := by
  obtain ⟨p, hp, rfl⟩ := List.mem_map.1 hk
  have h1 : (Value.int .i64 p.1, p.2) ∈ m.map (fun p => (Value.int .i64 p.1, p.2)) := List.mem_map_of_mem (f := fun p : Int × Value => (Value.int .i64 p.1, p.2)) hp
  rw [← F.ents] at h1
  obtain ⟨e, he, h2⟩ := List.mem_map.1 h1
  simp only [Prod.mk.injEq] at h2
  exact ⟨e, he, h2.1⟩
theorem key_inj {es : Array MapEntry} {clock : Nat} {m : List (Int × Value)} (F : Fits es clock m) {e e' : MapEntry} (he : e ∈ es.toList) (he' : e' ∈ es.toList) {k : Int} (h : e.key = .int .i64 k) (h' : e'.key = .int .i64 k) : e.born = e'.born := by
  have hk : es.toList.map (·.key) = m.map (fun p => Value.int .i64 p.1) := by
    have := congrArg (List.map Prod.fst) F.ents
    simpa [List.map_map, Function.comp_def] using this
  have hn : (es.toList.map (·.key)).Nodup := by
    rw [hk]
    have := F.keys
    rw [show m.map (fun p => Value.int .i64 p.1) = (m.map (·.1)).map (fun x => Value.int .i64 x) by simp [List.map_map, Function.comp_def]]
    exact nodup_ints this
  obtain ⟨i, hi, hie⟩ := List.mem_iff_getElem.1 he
  obtain ⟨j, hj, hje⟩ := List.mem_iff_getElem.1 he'
  have : i = j := by
    have e1 : (es.toList.map (·.key))[i]'(by simpa using hi) = (es.toList.map (·.key))[j]'(by simpa using hj) := by simp only [List.getElem_map, hie, hje, h, h']
    exact nodup_inj hn _ _ e1
  subst this
  rw [← hie, ← hje]

section
variable {P : Program} {t kt et : TypeId} (ht : P.underlying t = some (.map kt et)) (hk : P.underlying kt = some (.int .i64))
include ht

omit ht in
theorem run_next_i {w : World} {b r : Nat} {m : List (Int × Value)} {done : List Int} (h : Rng w b r m done) (ty : TypeId) :
    ((∀ k v, (k, v) ∈ m → k ∈ done) ∧ (Instr.next (.pointer (some ⟨r, 0, none⟩)) false ty).run P w = .ok (.tuple #[.bool false]) w) ∨
    ∃ k v w', (k, v) ∈ m ∧ k ∉ done ∧ (Instr.next (.pointer (some ⟨r, 0, none⟩)) false ty).run P w = .ok (.tuple #[.bool true, .int .i64 k, v]) w' ∧ Rng w' b r m (k :: done) ∧ Kp (fun j => j = r) w w' ∧
      (Instr.entry (.pointer (some ⟨r, 0, none⟩))).run P w' = .ok (.tuple #[.int .i64 k, v]) w' := by
  obtain ⟨es, c, seen, hb, F, hr, hs, hn, hd, he⟩ := h
  have hne : b ≠ r := by rintro rfl; rw [hb] at hr; cases hr
  rcases run_next_at (P := P) w ty r b c c seen es c hr hb F.lt (Nat.le_refl _) with ⟨h0, hrun⟩ | ⟨e, hmem, w1, hw1, hrun⟩
  · refine .inl ⟨fun k v hkv => ?_, hrun⟩
    have hk : k ∈ m.map (·.1) := List.mem_map_of_mem (f := Prod.fst) hkv
    obtain ⟨e, hme, hke⟩ := ent_of F hk
    refine (he e hme k hke).1 ?_
    have h1 : leftOf es seen = #[] := Array.eq_empty_of_size_eq_zero h0
    unfold leftOf at h1
    rw [Array.filter_eq_empty_iff] at h1
    have := h1 e (by simpa using hme)
    simpa using this
  · have hm2 : e ∈ es.toList ∧ seen.contains e.born = false := by
      unfold leftOf at hmem
      simp at hmem
      simpa using hmem
    obtain ⟨k, hke, hkv⟩ := mem_ents F hm2.1
    have hnd : k ∉ done := fun h => by
      have := (he e hm2.1 k hke).2 h
      rw [hm2.2] at this
      cases this
    rw [hke] at hrun
    have hb1 : w1.heap[b]? = some (.map es c) := by rcases hw1 with rfl | rfl <;> exact hb
    have hr1 : w1.heap[r]? = some (.mapIter (some b) c seen c) := by rcases hw1 with rfl | rfl <;> exact hr
    have hb2 : (setBlock w1 r (.mapIter (some b) c (seen.push e.born) c)).heap[b]? = some (.map es c) := ((MapKept.heap_set hr1).2 b hne).trans hb1
    have hr2 := heap_setBlock (o' := .mapIter (some b) c (seen.push e.born) c) hr1
    have hK : Kp (fun j => j = r) w w1 := by rcases hw1 with rfl | rfl; exact Kp.refl _ _; exact (Kp.refl _ _).drew
    refine .inr ⟨k, e.val, _, hkv, hnd, hrun, ⟨es, c, _, hb2, F, hr2, by simp [hs], ?_, ?_, ?_⟩, hK.trans (kp_setBlock hr1), ?_⟩
    · simp [hn, hnd]
    · intro x hx
      simp only [List.mem_cons] at hx
      rcases hx with rfl | hx
      · exact List.mem_map_of_mem (f := Prod.fst) hkv
      · exact hd x hx
    · intro e' he' k' hk'
      simp only [Array.contains_push, Bool.or_eq_true, List.mem_cons, he e' he' k' hk', beq_iff_eq]
      constructor
      · rintro (h | h)
        · exact .inr h
        · have hee : e' = e := by
            obtain ⟨i, hi, hie⟩ := List.mem_iff_getElem.1 he'
            obtain ⟨j, hj, hje⟩ := List.mem_iff_getElem.1 hm2.1
            have : i = j := nodup_inj (l := es.toList.map (·.born)) F.born (by simpa using hi) (by simpa using hj) (by simp only [List.getElem_map, hie, hje]; exact h)
            subst this
            rw [← hie, ← hje]
          subst hee
          rw [hke] at hk'
          left
          simpa using hk'.symm
      · rintro (rfl | h)
        · exact .inr (key_inj F he' hm2.1 hk' hke)
        · exact .inl h
    · have := run_entry_at (P := P) _ r b c seen es c e hr2 hb2 hm2.1 F.born
      rw [hke] at this
      exact this

variable {w : World} {ops : Array Oper} {rest : List Oper} {o : Oper} {a : Act} {Q : Exit → Act → World → Prop}

theorem wpList_range_i (hg : o.guard = none) (x : Operand) (hop : o.op = Op.range t x) {b : Nat} {m : List (Int × Value)} (hm : a.eval x = .map (some b)) (h : IMap w b m)
    (hK : ∀ w', Rng w' b w.heap.size m [] → Kp (fun _ => False) w w' → wpList P ops Q rest (a.put o.dst (.pointer (some ⟨w.heap.size, 0, none⟩))) w') : wpList P ops Q (o :: rest) a w := by
  refine wpList_plain hg fun K' hK' => ?_
  obtain ⟨es, c, hb, F⟩ := h
  unfold Oper.wp
  simp [execOp, hop, hm, run_range_map w t kt et b es c ht hb, Result.andThen]
  refine hK' _ _ (hK _ ⟨es, c, #[], heap_old _ hb, F, heap_new _ _, rfl, by simp, by simp, ?_⟩ ((Kp.refl _ _).alloc _))
  intro e he k hk
  simp

omit ht in
theorem wpList_next_i (hg : o.guard = none) (x : Operand) (hop : o.op = Op.next x false) {b r : Nat} {m : List (Int × Value)} {done : List Int} (hm : a.eval x = .pointer (some ⟨r, 0, none⟩)) (h : Rng w b r m done)
    (hDone : (∀ k v, (k, v) ∈ m → k ∈ done) → wpList P ops Q rest (a.put o.dst (.tuple #[.bool false])) w)
    (hMore : ∀ k v w', (k, v) ∈ m → k ∉ done → Rng w' b r m (k :: done) → Kp (fun j => j = r) w w' → (Instr.entry (.pointer (some ⟨r, 0, none⟩))).run P w' = .ok (.tuple #[.int .i64 k, v]) w' →
      wpList P ops Q rest (a.put o.dst (.tuple #[.bool true, .int .i64 k, v])) w') : wpList P ops Q (o :: rest) a w := by
  refine wpList_plain hg fun K' hK' => ?_
  unfold Oper.wp
  rcases run_next_i (P := P) h o.type with ⟨h0, hrun⟩ | ⟨k, v, w', hkv, hnd, hrun, hR, hkp, hen⟩
  · simp [execOp, hop, hm, hrun, Result.andThen]
    exact hK' _ _ (hDone h0)
  · simp [execOp, hop, hm, hrun, Result.andThen]
    exact hK' _ _ (hMore k v w' hkv hnd hR hkp hen)

include hk in
theorem wpList_update_i (hg : o.guard = none) (x y z : Operand) (hop : o.op = Op.mapUpdate t x y z) {b : Nat} {m : List (Int × Value)} (hm : a.eval x = .map (some b)) (h : IMap w b m) {k : Int} (hy : a.eval y = .int .i64 k) {v : Value} (hz : a.eval z = v)
    (hK : ∀ w', IMap w' b (putm m k v) → Kp (fun j => j = b) w w' → wpList P ops Q rest (a.put o.dst undef) w') : wpList P ops Q (o :: rest) a w := by
  refine wpList_plain hg fun K' hK' => ?_
  obtain ⟨w', hrun, h1, h2⟩ := run_update_i (P := P) ht hk h k v
  unfold Oper.wp
  simp [execOp, hop, hm, hy, hz, hrun, Result.andThen]
  exact hK' _ _ (hK w' h1 h2)

include hk in
theorem wpList_delete_i (hg : o.guard = none) (x y : Operand) (k' : TypeId) (hop : o.op = Op.call { callee := Callee.builtin Builtin.delete, args := #[x, y], argTypes := #[t, k'] }) {b : Nat} {m : List (Int × Value)} (hm : a.eval x = .map (some b)) (h : IMap w b m) {k : Int} (hy : a.eval y = .int .i64 k)
    (hK : ∀ w', IMap w' b (delm m k) → Kp (fun j => j = b) w w' → wpList P ops Q rest (a.put o.dst (.tuple #[])) w') : wpList P ops Q (o :: rest) a w := by
  refine wpList_plain hg fun K' hK' => ?_
  obtain ⟨w', hrun, h1, h2⟩ := run_delete_i (P := P) ht hk h k o.type k'
  unfold Oper.wp
  simp [execOp, hop, resolve, invoke, builtin, hm, hy, hrun, Result.andThen]
  exact hK' _ _ (hK w' h1 h2)

include hk in
theorem wpList_lookup_i (hg : o.guard = none) (x y : Operand) (hop : o.op = Op.lookup t x y false) {b : Nat} {m : List (Int × Value)} (hm : a.eval x = .map (some b)) (h : IMap w b m) {z : Value} (hz : ∀ w : World, (zeroValue et).run P w = .ok z w) {k : Int} (hy : a.eval y = .int .i64 k)
    {v : Value} (hv : (getm m k).getD z = v) (hK : wpList P ops Q rest (a.put o.dst v) w) : wpList P ops Q (o :: rest) a w := by
  subst hv
  refine wpList_plain hg fun K' hK' => ?_
  have hrun := run_lookup_i (P := P) ht hk h hz k false
  unfold Oper.wp
  simp [execOp, hop, hm, hy, hrun, Result.andThen]
  exact hK' _ _ hK

include hk in
theorem wpList_lookup2_i (hg : o.guard = none) (x y : Operand) (hop : o.op = Op.lookup t x y true) {b : Nat} {m : List (Int × Value)} (hm : a.eval x = .map (some b)) (h : IMap w b m) {z : Value} (hz : ∀ w : World, (zeroValue et).run P w = .ok z w) {k : Int} (hy : a.eval y = .int .i64 k)
    {v : Value} {c : Bool} (hv : (getm m k).getD z = v) (hc : (getm m k).isSome = c) (hK : wpList P ops Q rest (a.put o.dst (.tuple #[v, .bool c])) w) : wpList P ops Q (o :: rest) a w := by
  subst hv
  subst hc
  refine wpList_plain hg fun K' hK' => ?_
  have hrun := run_lookup_i (P := P) ht hk h hz k true
  unfold Oper.wp
  simp [execOp, hop, hm, hy, hrun, Result.andThen]
  exact hK' _ _ hK

theorem wpList_len_i (hg : o.guard = none) (x : Operand) (hop : o.op = Op.call { callee := Callee.builtin Builtin.len, args := #[x], argTypes := #[t] }) {b : Nat} {m : List (Int × Value)} (hm : a.eval x = .map (some b)) (h : IMap w b m)
    {n : Nat} (hn : m.length = n) (hK : wpList P ops Q rest (a.put o.dst (.int .i64 n)) w) : wpList P ops Q (o :: rest) a w := by
  subst hn
  refine wpList_plain hg fun K' hK' => ?_
  unfold Oper.wp
  simp [execOp, hop, resolve, invoke, builtin, hm, run_len_i ht h o.type, Result.andThen]
  exact hK' _ _ hK
end
end Go.Proofs.Ytjhefbkigmamfaa
