/-
  vote.set, vote.Count, vote.Won, each walked once: on lists of ints of any length that memory holds.
-/
import Derived.Test.YtdkgbjbfmempdaaImar
namespace Go.Proofs.Ytdkgbjbfmempdaa
open Go.RowKit
set_option linter.unusedVariables false

/-- A list of ints in memory. -/
def Ints (w : World) (a : Option Addr) (zs : List Int) : Prop := ∀ i, i < zs.length → ∃ b off, a = some ⟨b, off, none⟩ ∧ w.cell? ⟨b, off + i, none⟩ = some (.int .i64 (zs.getD i 0))
theorem Ints.kp {w w' : World} {a : Option Addr} {zs : List Int} (h : Ints w a zs) {S : Nat → Prop} (k : Kp S w w') (hs : ∀ j, j < w.heap.size → ¬ S j) : Ints w' a zs := by
  intro i hi
  obtain ⟨b, off, e, hc⟩ := h i hi
  have hlt := World.block_lt_of_cell? w _ hc
  exact ⟨b, off, e, (k.cell (p := ⟨b, off + i, none⟩) hlt (hs b hlt)).trans hc⟩
theorem Ints.no {w w' : World} {a : Option Addr} {zs : List Int} (h : Ints w a zs) (k : Kp (fun _ => False) w w') : Ints w' a zs := h.kp k fun _ _ h => h
theorem Ints.at {w : World} {a : Option Addr} {zs : List Int} (h : Ints w a zs) {i : Nat} (hi : i < zs.length) : ∃ b off, a = some ⟨b, off, none⟩ ∧ w.cell? ⟨b, off + i, none⟩ = some (.int .i64 (zs.getD i 0)) := h i hi

def addm (l : List Int) (x : Int) : List Int := if x ∈ l then l else l ++ [x]
/-- Each number once, in the order in which it first came. -/
def once (l : List Int) : List Int := l.foldl addm []
theorem once_snoc (l : List Int) (x : Int) : once (l ++ [x]) = addm (once l) x := by simp [once, List.foldl_append]
theorem once_take (l : List Int) (k : Nat) (h : k < l.length) : once (l.take (k + 1)) = addm (once (l.take k)) (l.getD k 0) := by
  rw [List.take_succ_eq_append_getElem h, once_snoc]
  simp [List.getD, h]
theorem mem_addm (l : List Int) (x y : Int) : y ∈ addm l x ↔ y ∈ l ∨ y = x := by
  unfold addm
  split
  · rename_i h
    constructor
    · exact .inl
    · rintro (h' | rfl)
      · exact h'
      · exact h
  · simp
theorem mem_fold (l : List Int) : ∀ (acc : List Int) (y : Int), y ∈ l.foldl addm acc ↔ y ∈ acc ∨ y ∈ l := by
  induction l with
  | nil => simp
  | cons x r ih =>
    intro acc y
    simp only [List.foldl_cons, ih, mem_addm, List.mem_cons]
    constructor
    · rintro ((h | h) | h)
      · exact .inl h
      · exact .inr (.inl h)
      · exact .inr (.inr h)
    · rintro (h | h | h)
      · exact .inl (.inl h)
      · exact .inl (.inr h)
      · exact .inr h
theorem mem_once (l : List Int) (y : Int) : y ∈ once l ↔ y ∈ l := by simp [once, mem_fold]
theorem addm_nodup {l : List Int} {x : Int} (h : l.Nodup) : (addm l x).Nodup := by
  unfold addm
  split
  · exact h
  · rename_i hx
    rw [List.nodup_append]
    exact ⟨h, by simp, fun a ha b hb e => by simp at hb; subst hb; exact hx (e ▸ ha)⟩
theorem fold_nodup (l : List Int) : ∀ (acc : List Int), acc.Nodup → (l.foldl addm acc).Nodup := by
  induction l with
  | nil => exact fun _ h => h
  | cons x r ih => exact fun acc h => ih _ (addm_nodup h)
theorem once_nodup (l : List Int) : (once l).Nodup := fold_nodup l [] (by simp)
theorem addm_length (l : List Int) (x : Int) : (addm l x).length ≤ l.length + 1 := by unfold addm; split <;> simp
theorem fold_length (l : List Int) : ∀ (acc : List Int), (l.foldl addm acc).length ≤ acc.length + l.length := by
  induction l with
  | nil => simp
  | cons x r ih => intro acc; have h1 := ih (addm acc x); have h2 := addm_length acc x; simp only [List.foldl_cons, List.length_cons]; omega
theorem once_length (l : List Int) : (once l).length ≤ l.length := by have := fold_length l []; simpa [once] using this

/-- The set as a map: each key true. -/
def tr (l : List Int) : List (Int × Value) := l.map fun x => (x, Value.bool true)
theorem tr_keys (l : List Int) : (tr l).map (·.1) = l := by simp [tr, List.map_map, Function.comp_def]
theorem tr_val {l : List Int} {k : Int} {v : Value} (h : (k, v) ∈ tr l) : k ∈ l ∧ v = .bool true := by
  simp only [tr, List.mem_map, Prod.mk.injEq] at h
  obtain ⟨x, hx, rfl, rfl⟩ := h
  exact ⟨hx, rfl⟩
theorem putm_same {k : Int} : ∀ {l : List Int}, k ∈ l → putm (tr l) k (.bool true) = tr l
  | [], h => by simp at h
  | x :: r, h => by
    by_cases e : k = x
    · simp [tr, putm, e]
    · simp only [List.mem_cons] at h
      have := putm_same (l := r) (h.resolve_left e)
      unfold tr at this ⊢
      simp only [List.map_cons, putm, if_neg e, this]
theorem putm_tr (l : List Int) (x : Int) : putm (tr l) x (.bool true) = tr (addm l x) := by
  unfold addm
  split
  · rename_i h; exact putm_same h
  · rename_i h
    rw [putm_new (by rw [tr_keys]; exact h)]
    simp [tr]
theorem getm_tr (l : List Int) (x : Int) : (getm (tr l) x).getD (.bool false) = .bool (decide (x ∈ l)) := by
  induction l with
  | nil => simp [tr, getm]
  | cons y r ih =>
    unfold tr at ih ⊢
    simp only [List.map_cons, getm]
    by_cases e : x = y
    · simp [e]
    · rw [if_neg e, ih]; simp [e]

theorem zeroBool (w : World) : (zeroValue 4).run Try.prog w = .ok (.bool false) w := by kernel_rfl

set_option maxHeartbeats 400000 in
theorem set_any {w : World} {a : Option Addr} {zs : List Int} (hI : Ints w a zs) (hm : zs.length ≤ maxLen) (cap : Nat) :
    Calls Try.prog 35 #[.slice a zs.length cap] w fun e w' => e = .returned (.map (some w.heap.size)) ∧ IMap w' w.heap.size (tr (once zs)) ∧ Kp (fun _ => False) w w' := by
  unfold maxLen at hm
  have HI := Lib.hid hI
  clear hI
  have hmm := @run_makeMap Try.prog
  obtain ⟨n, hn⟩ : ∃ n, n = zs.length := ⟨_, rfl⟩
  rw [← hn] at hm ⊢
  have HN := Lib.hid hn
  clear hn
  go_enter Try.func35, Try.ntmps35
  go_wp2_with fail
  go_loopw [9] (fun i wr => ∃ k : Nat, i = .int .i64 k ∧ k ≤ n ∧ IMap wr w.heap.size (tr (once (zs.take k))) ∧ Kp (fun _ => False) w wr) (fun i _ => n - (intOf i).toNat)
  case atStart => exact ⟨0, rfl, Nat.zero_le _, imap_made w, (Kp.refl _ _).alloc _⟩
  case round =>
    obtain ⟨k, rfl, hk, hM, hK⟩ := hrel
    by_cases hlt : k < n
    · have hlt' : k < zs.length := HN.out ▸ hlt
      obtain ⟨b, off, rfl, hc⟩ := (HI.out.no hK).at hlt'
      have hO := once_take zs k hlt'
      generalize zs.getD k 0 = x at hc hO
      have HO := Lib.hid hO
      clear hO
      go_wp2_with (first | (at_mapUpdate; refine wpList_update_i Try.underlying70 Try.underlying3 rfl _ _ _ rfl rfl hM rfl rfl ?_; intro w1 hM1 hk1))
      go_roundw
      case rel => exact ⟨k + 1, by go_num, by omega, by rw [HO.out, ← putm_tr]; exact hM1, hK.andThen hk1 (fun i hi e => by omega)⟩
      case measure => simp [intOf]; omega
    · go_wp2_with fail
      go_ret
      have e : zs.take k = zs := List.take_of_length_le (by rw [← HN.out]; omega)
      rw [e] at hM
      exact ⟨rfl, hM, hK⟩
end Go.Proofs.Ytdkgbjbfmempdaa
