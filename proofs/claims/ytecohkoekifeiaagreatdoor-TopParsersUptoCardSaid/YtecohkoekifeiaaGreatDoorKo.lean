/-
  What the evaluator takes from Go's library, and that the program meets its terms. No condition.
-/
import Derived.Shelf.Strings.Search2
import Derived.Test.YtecohkoekifeiaaGreatDoorProg
import Derived.Test.YtecohkoekifeiaaGreatDoorKs
import Derived.Laws.Externs
import Derived.Test.YtecohkoekifeiaaGreatDoorEe
set_option linter.all false
namespace Go.Proofs
open Go.Shelf
def Tryz.lays219_ren : Go.Shelf.Ren := ⟨fun | 219 => 109 | 217 => 110 | 225 => 170 | 224 => 171 | 267 => 172 | 266 => 173 | 314 => 254 | n => n, fun | 9 => 9 | 3 => 3 | 4 => 4 | 5 => 5 | 46 => 103 | 146 => 346 | 51 => 109 | n => n, fun | 1 => 0 | n => n⟩
theorem Tryz.lays219 : Go.Proofs.Lays.n219 Tryz.prog Tryz.lays219_ren := {
  mixed := by kernel_rfl
  f217 := Tryz.func110.trans (congrArg some (by kernel_rfl))
  f219 := Tryz.func109.trans (congrArg some (by kernel_rfl))
  f224 := Tryz.func171.trans (congrArg some (by kernel_rfl))
  f225 := Tryz.func170.trans (congrArg some (by kernel_rfl))
  f266 := Tryz.func173.trans (congrArg some (by kernel_rfl))
  f267 := Tryz.func172.trans (congrArg some (by kernel_rfl))
  f314 := Tryz.func254.trans (congrArg some (by kernel_rfl))
  t3 := Tryz.underlying3
  a3 := Tryz.isAgg3
  z3 := Tryz.sizeOf3
  v3 := Tryz.zeroValue3
  t4 := Tryz.underlying4
  a4 := Tryz.isAgg4
  z4 := Tryz.sizeOf4
  v4 := Tryz.zeroValue4
  t5 := Tryz.underlying5
  a5 := Tryz.isAgg5
  z5 := Tryz.sizeOf5
  v5 := Tryz.zeroValue5
  t9 := Tryz.underlying9
  a9 := Tryz.isAgg9
  z9 := Tryz.sizeOf9
  v9 := Tryz.zeroValue9
  t46 := Tryz.underlying103
  a46 := Tryz.isAgg103
  z46 := Tryz.sizeOf103
  v46 := Tryz.zeroValue103
  t51 := Tryz.underlying109
  a51 := Tryz.isAgg109
  z51 := Tryz.sizeOf109
  v51 := Tryz.zeroValue109
  t146 := Tryz.underlying346
  a146 := Tryz.isAgg346
  z146 := Tryz.sizeOf346
  v146 := Tryz.zeroValue346
  g1 := by kernel_rfl }
end Go.Proofs
namespace Go.Ev
open Go Go.Proofs

theorem idxF_eq : ∀ (s sub : List UInt8) (n : Nat), idxF n s sub = if Lib.index s sub = -1 then -1 else Lib.index s sub + n
  | [], sub, n => by
    unfold idxF Lib.index
    cases sub.isEmpty <;> simp
  | b :: l, sub, n => by
    unfold idxF Lib.index
    cases h : sub.isPrefixOf (b :: l) with
    | true => simp
    | false =>
      simp only [cond_false, Bool.false_eq_true, if_false]
      rw [idxF_eq l sub (n + 1)]
      have := Lib.index_ge l sub
      by_cases hx : Lib.index l sub = -1
      · simp [hx]
      · have h1 : (Lib.index l sub == -1) = false := by simpa using hx
        have h2 : ¬ Lib.index l sub + 1 = -1 := by omega
        simp only [h1, hx, h2, if_false, Bool.false_eq_true]
        push_cast
        omega

theorem ng : (Tryz.prog.funcs.toList.all fun fn => !(fn.name == "runtime.NumGoroutine")) = true := by kernel_rfl

theorem ng_at {f : FuncId} {fn : Func} (h : Tryz.prog.funcs[f]? = some fn) : (fn.name == "runtime.NumGoroutine") = false := by
  have := List.all_eq_true.1 ng fn (by rw [← Array.getElem?_toList] at h; exact List.mem_of_getElem? h)
  simpa using this

theorem enters_of {P : Program} {g : FuncId} {fn : Func} (hfn : P.funcs[g]? = some fn) (hng : (fn.name == "runtime.NumGoroutine") = false) (hb : fn.body.isSome = true) (args : Array Value) (w : World) :
    (callFunc g args).run P w = .ok (.enter g args) w := by
  have h1 : ¬ fn.name = "runtime.NumGoroutine" := by simpa using hng
  have h2 : ¬ fn.body = none := fun hx => by rw [hx] at hb; cases hb
  unfold callFunc
  simp [hfn, h1, h2]

theorem sum_calls {P : Program} {ρ : Go.Shelf.Ren} (L : Lays.n219 P ρ) (s t2 : ByteArray) (m : Int) (w : World) (hs : s.size < 4294967281) (hm : w.cell? ⟨(ρ.g 1), 0, none⟩ = some (.int .i64 m)) :
    Calls P (ρ.f 219) #[.string s, .string t2] w fun e w' => e = .returned (.int .i64 (idxF 0 s.data.toList t2.data.toList)) ∧ ∃ n, w' = { w with drawn := n } := by
  refine (Any.stringslite_Index L s t2 m w hs hm).mono ?_
  rintro e w' ⟨rfl, rfl⟩
  refine ⟨?_, w'.drawn, rfl⟩
  rw [idxF_eq]
  by_cases hx : Lib.index s.data.toList t2.data.toList = -1
  · simp [hx]
  · simp [hx]

theorem okK {low : Nat → Option Obj} {m : Int} {t : TypeId} {f : Nat × Nat} (h0 : low 0 = some (.cells #[.int .i64 m] t f)) : Ok KC low := by
  refine ⟨by kernel_rfl, fun g hb args w => ?_, fun g hg args w => ?_, fun g hg args w => ?_, fun g hg args w => ?_, fun g args v hs => ?_⟩
  · unfold bodied at hb
    split at hb
    · rename_i fn hfn
      exact enters_of (P := Tryz.prog) hfn (ng_at hfn) hb args w
    · cases hb
  · have : g = 173 := by
      change cond (Nat.beq g 173) 1 (cond (Nat.beq g 97) 2 (cond (Nat.beq g 385) 3 0)) = 1 at hg
      cases h1 : Nat.beq g 173 with
      | true => exact nbeq.1 h1
      | false =>
        rw [h1] at hg
        cases h2 : Nat.beq g 97 <;> cases h3 : Nat.beq g 385 <;> rw [h2, h3] at hg <;> cases hg
    subst this
    exact run_callFunc_extern (P := Tryz.prog) Tryz.func173 (by kernel_rfl) (by kernel_rfl) (by kernel_rfl) (by kernel_rfl) args w
  · have : g = 97 := by
      change cond (Nat.beq g 173) 1 (cond (Nat.beq g 97) 2 (cond (Nat.beq g 385) 3 0)) = 2 at hg
      cases h2 : Nat.beq g 97 with
      | true => exact nbeq.1 h2
      | false =>
        rw [h2] at hg
        cases h1 : Nat.beq g 173 <;> cases h3 : Nat.beq g 385 <;> rw [h1, h3] at hg <;> cases hg
    subst this
    exact run_callFunc_extern (P := Tryz.prog) Tryz.func97 (by kernel_rfl) (by kernel_rfl) (by kernel_rfl) (by kernel_rfl) args w
  · have : g = 385 := by
      change cond (Nat.beq g 173) 1 (cond (Nat.beq g 97) 2 (cond (Nat.beq g 385) 3 0)) = 3 at hg
      cases h3 : Nat.beq g 385 with
      | true => exact nbeq.1 h3
      | false =>
        rw [h3] at hg
        cases h1 : Nat.beq g 173 <;> cases h2 : Nat.beq g 97 <;> rw [h1, h2] at hg <;> cases hg
    subst this
    exact run_callFunc_extern (P := Tryz.prog) Tryz.func385 (by kernel_rfl) (by kernel_rfl) (by kernel_rfl) (by kernel_rfl) args w
  · change sumAt 109 g args = some v at hs
    unfold sumAt at hs
    obtain ⟨hg, hs⟩ := cond_none hs
    have hg := nbeq.1 hg
    subst hg
    split at hs
    · rename_i s t2 hh
      obtain ⟨hz, rfl⟩ := cond_some hs
      refine ⟨rfl, rfl, fun w hl => ?_⟩
      have hcell : w.cell? ⟨0, 0, none⟩ = some (.int .i64 m) := by
        have h1 : w.heap[0]? = some (.cells #[.int .i64 m] t f) := (hl 0 (by decide)).trans h0
        simp [World.cell?, h1]
      exact sum_calls Tryz.lays219 s t2 m w (nblt.1 hz) hcell
    · cases hs
end Go.Ev
