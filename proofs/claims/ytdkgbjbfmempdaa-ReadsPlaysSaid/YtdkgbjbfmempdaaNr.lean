/-
  noRounds, New, num, none, each walked once. No condition.
-/
import Derived.Test.YtdkgbjbfmempdaaBk
namespace Go.Proofs.Ytdkgbjbfmempdaa
open Go.ChangeShapes Go.WideShapes Go.ChangeAt Go.RowKit Go.Deep
set_option linter.unusedVariables false

/-- Nothing was heard. -/
def mute : Nat → Int := fun _ => -1

set_option maxHeartbeats 4000000 in
theorem noRounds_any (w : World) : Calls Try.prog 19 #[] w fun e w' => e = .returned (.agg (sixteen mute).toArray) ∧ Kp (fun _ => False) w w' := by
  go_enter Try.func19, Try.ntmps19
  go_wp2_with fail
  go_loopw [3] (fun i wr => ∃ k : Nat, i = .int .i64 k ∧ k ≤ 16 ∧ wr.heap[w.heap.size + 1]? = some (.cells (sixteen (fun j => if j < k then -1 else 0)).toArray 49 (0, 0)) ∧ (∃ cs, wr.heap[w.heap.size]? = some (.cells cs 49 (0, 0)) ∧ cs.size = 16) ∧ Kp (fun _ => False) w wr) (fun i _ => 16 - (intOf i).toNat)
  case atStart =>
    refine ⟨0, rfl, by omega, ?_, ⟨_, heap_old _ (heap_new w _), rfl⟩, ((Kp.refl _ _).alloc _).alloc _⟩
    have h2 : ∀ o o', ((w.alloc o).alloc o').heap[w.heap.size + 1]? = some o' := fun o o' => by simpa using heap_new (w.alloc o) o'
    exact h2 _ _
  case round => 
    obtain ⟨k, rfl, hk, hc, ⟨cs, hcs, hcz⟩, hK⟩ := hrel
    by_cases hlt : k < 16
    · have h0 := cell_of hc k (v := .int .i64 0) (by rw [List.getElem?_toArray, sixteen_get _ k hlt]; simp)
      have hf := free_of hc k
      have hset := heap_set hc k (.int .i64 (-1))
      have hst := sixteen_set (fun j => if j < k then -1 else 0) k hlt (-1)
      have hfn : (fun j => if j = k then (-1 : Int) else if j < k then -1 else 0) = (fun j => if j < k + 1 then -1 else 0) := by
        funext j
        by_cases h1 : j = k
        · simp [h1]
        · by_cases h2 : j < k
          · rw [if_neg h1, if_pos h2, if_pos (by omega)]
          · rw [if_neg h1, if_neg h2, if_neg (by omega)]
      rw [show (sixteen fun j => if j < k then (-1 : Int) else 0).toArray.setIfInBounds k (.int .i64 (-1)) = (sixteen fun j => if j < k + 1 then (-1 : Int) else 0).toArray by rw [List.setIfInBounds_toArray, hst, hfn]] at hset
      have HS := Lib.hid hset
      have HC := Lib.hid hc
      clear hst hset hfn hc
      have hne := heap_set_other (⟨w.heap.size + 1, k, none⟩ : Addr) (.int .i64 (-1)) hcs (by simp)
      have HN := Lib.hid hne
      clear hne
      go_wp2_with fail
      go_roundw
      case rel => exact ⟨k + 1, by go_num, by omega, HS.out, ⟨cs, HN.out, hcz⟩, hK.setCell (Or.inr (by simp)) _⟩
      case measure => simp [intOf]; omega
    · obtain rfl : k = 16 := by omega
      have e : (sixteen fun j => if j < 16 then (-1 : Int) else 0) = sixteen mute := by simp [sixteen, mute]
      rw [e] at hc
      have HC := Lib.hid hc
      have HCS := Lib.hid hcs
      have HZ := Lib.hid hcz
      clear hc e hcs hcz
      go_wp2_with (first | (refine wpList_load_row rfl 49 _ rfl (w.heap.size + 1) rfl 49 _ (0, 0) _ HC.out Try.underlying49 rfl size49 ?_) | (refine wpList_store_row rfl 49 _ _ rfl w.heap.size _ rfl rfl 49 _ HCS.out size49 HZ.out ones ?_))
      exact bodyPost_ret (v := .agg (sixteen mute).toArray) (results_cell_row Try.results19 _ _ w.heap.size 49 _ (0, 0) _ rfl (setRow_heap _ _ _ _ _ _ HCS.out) Try.underlying49 rfl size49) rfl ⟨rfl, hK.setRow (Or.inr (Nat.le_refl _)) _⟩

set_option maxHeartbeats 4000000 in
theorem new_bad (w : World) (me : Int) (h : me < 0 ∨ 16 ≤ me) : Calls Try.prog 8 #[.int .i64 me] w fun e w' => e = .returned (.tuple #[.pointer none, .int .i64 1]) ∧ w' = w := by
  have hd : (decide (me < 0) || decide (16 ≤ me)) = true := by simpa using h
  go_enter Try.func8, Try.ntmps8
  go_wp2_with fail
  all_goals exact bodyPost_ret (v := .tuple #[.pointer none, .int .i64 1]) (by simp [results, Try.results8, go_sem]) rfl ⟨rfl, rfl⟩

theorem built51 (me : Int) (h : Nat → Int) : List.foldl (fun (cs : Array Value) (x : Value × Nat) => cs.setIfInBounds (3 + x.snd) x.fst)
    #[.int .i64 me, .bool true, .slice none 0 0, .int .i64 0, .int .i64 0, .int .i64 0, .int .i64 0, .int .i64 0, .int .i64 0, .int .i64 0, .int .i64 0, .int .i64 0, .int .i64 0, .int .i64 0, .int .i64 0, .int .i64 0, .int .i64 0, .int .i64 0, .int .i64 0] (sixteen h).zipIdx = bookCells me true (.slice none 0 0) h := by
  simp [sixteen, bookCells]

set_option maxHeartbeats 400000 in
theorem new_good (w : World) (me : Int) (h0 : 0 ≤ me) (h1 : me < 16) : Calls Try.prog 8 #[.int .i64 me] w fun e w' => ∃ b, e = .returned (.tuple #[.pointer (some ⟨b, 0, none⟩), .int .i64 0]) ∧ Book w' w.heap.size b me [] mute none 0 ∧ Kp (fun _ => False) w w' := by
  go_enter Try.func8, Try.ntmps8
  go_wp2_with (first | (go_at_call 19; refine (noRounds_any _).mono ?_; rintro e w1 ⟨rfl, hk1⟩))
  rw [built51]
  have hB : ∀ w2, w2.heap[w1.heap.size]? = some (.cells (bookCells me true (.slice none 0 0) mute) 51 (0, 0)) → Book w2 w.heap.size w1.heap.size me [] mute none 0 := fun w2 h => ⟨h, Owns.nil _ _ _ _, hk1.size⟩
  generalize bookCells me true (.slice none 0 0) mute = cs at hB ⊢
  exact bodyPost_ret (v := .tuple #[.pointer (some ⟨w1.heap.size, 0, none⟩), .int .i64 0]) (by simp [results, Try.results8, go_sem]) rfl ⟨w1.heap.size, rfl, hB _ (heap_new w1 _), hk1.alloc _⟩
theorem num_any (w : World) (e : Int) : Calls Try.prog 9 #[.int .i64 e] w fun r w' => r = .returned (.int .i64 e) ∧ w' = w := by
  go_enter Try.func9, Try.ntmps9
  go_wp2
  go_ret
  exact ⟨rfl, rfl⟩
theorem none_no {w : World} {b : Nat} {cs : Array Value} (hb : w.heap[b]? = some (.cells cs 51 (0, 0))) {m : Bool} (h1 : cs[1]? = some (.bool m)) : Calls Try.prog 20 #[.pointer (some ⟨b, 0, none⟩)] w fun r w' => r = .returned (.bool (!m)) ∧ w' = w := by
  have c := cell_of hb 1 h1
  go_enter Try.func20, Try.ntmps20
  go_wp2
  go_ret
  exact ⟨rfl, rfl⟩
theorem none_nil (w : World) : Calls Try.prog 20 #[.pointer none] w fun r w' => r = .returned (.bool true) ∧ w' = w := by
  go_enter Try.func20, Try.ntmps20
  go_wp2
  go_ret
  exact ⟨rfl, rfl⟩
end Go.Proofs.Ytdkgbjbfmempdaa
