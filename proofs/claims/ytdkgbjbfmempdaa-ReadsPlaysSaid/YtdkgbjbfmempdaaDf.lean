/-
  slices.IndexFunc and slices.DeleteFunc at Ready's closure, each walked once. No condition.
-/
import Derived.Test.YtdkgbjbfmempdaaEv
namespace Go.Proofs.Ytdkgbjbfmempdaa
open Go.ChangeShapes Go.WideShapes Go.ChangeAt Go.RowKit Go.Deep
set_option linter.unusedVariables false

def keep (p : Rd → Bool) (l : List Rd) : List Rd := l.filter fun r => !p r
def toldAll (p : Rd → Bool) (l : List Rd) : List (Int × Int) := (l.filter p).map fun r => (r.id, r.ix)
theorem keep_succ (p : Rd → Bool) (l : List Rd) (k : Nat) (hk : k < l.length) : keep p (l.take (k + 1)) = keep p (l.take k) ++ if p (l.getD k default) then [] else [l.getD k default] := by
  have e : l.getD k default = l[k] := by simp [List.getD, List.getElem?_eq_getElem hk]
  unfold keep
  rw [List.take_succ_eq_append_getElem hk, List.filter_append, e]
  cases h : p l[k] <;> simp [h]
theorem toldAll_succ (p : Rd → Bool) (l : List Rd) (k : Nat) (hk : k < l.length) : toldAll p (l.take (k + 1)) = toldAll p (l.take k) ++ told (p (l.getD k default)) (l.getD k default) := by
  have e : l.getD k default = l[k] := by simp [List.getD, List.getElem?_eq_getElem hk]
  unfold toldAll told
  rw [List.take_succ_eq_append_getElem hk, List.filter_append, e, List.map_append]
  cases h : p l[k] <;> simp [h]
theorem toldAll_length (p : Rd → Bool) (l : List Rd) : (toldAll p l).length ≤ l.length := by
  unfold toldAll
  rw [List.length_map]
  exact List.length_filter_le ..
theorem keep_length (p : Rd → Bool) (l : List Rd) : (keep p l).length ≤ l.length := List.length_filter_le ..

/-- The closure's contract, wherever only the list's own block and new blocks have turned. -/
def Clo (W : World) (a : Option Addr) (b c1 c2 c3 c4 : Nat) (sv : Value) (p : Rd → Bool) : Prop := ∀ (w : World) (o : Option Addr) (co : Nat) (out : List (Int × Int)) (r : Rd),
  Kp (fun j => W.heap.size ≤ j ∨ some j = blockOf a) W w → Env w W.heap.size b c1 c2 c3 c4 sv o co out → out.length ≤ 1000 →
  Calls Try.prog 25 #[.agg #[.int .i64 r.id, .int .i64 r.ix, .int .i64 r.rd], .pointer (some ⟨c3, 0, none⟩), .pointer (some ⟨c4, 0, none⟩)] w fun e w' => ∃ o' co', e = .returned (.bool (p r)) ∧
      Env w' W.heap.size b c1 c2 c3 c4 sv o' co' (out ++ told (p r) r) ∧ Kp (fun j => j = c4 ∨ some j = blockOf o) w w'

theorem Ints.off {w w' : World} {x : Option Addr} {zs : List Int} (h : Ints w x zs) {S : Nat → Prop} (k : Kp S w w') (hs : zs ≠ [] → ∀ g, g < w.heap.size → blockOf x = some g → ¬ S g) : Ints w' x zs := by
  intro i hi
  obtain ⟨b, off, rfl, hc⟩ := h i hi
  have hb := World.block_lt_of_cell? _ _ hc
  exact ⟨b, off, rfl, (k.cell (p := ⟨b, off + i, none⟩) hb (hs (fun e => by rw [e] at hi; exact absurd hi (Nat.not_lt_zero _)) b hb rfl)).trans hc⟩

theorem clo_of {W : World} {B b : Nat} {me : Int} {l : List Rd} {h : Nat → Int} {a : Option Addr} {cap : Nat} (hb : Book W B b me l h a cap) {x : Option Addr} {zs : List Int} (hx : Ints W x zs) (hxa : zs ≠ [] → ∀ g, blockOf x = some g → blockOf a ≠ some g) (mx : zs.length ≤ 35184372088832) (cx : Nat) (c1 c2 c3 c4 : Nat) :
    Clo W a b c1 c2 c3 c4 (.slice x zs.length cx) (fun r => won zs (yes me h r.rd)) := by
  intro w o co out r hK hE hout
  have hbl := lt_of_block hb.blk
  have hb' := hK.heap hb.blk (fun h => h.elim (fun h => by omega) (fun e => hb.ne e.symm))
  exact deletes_any hb' (hx.off hK (fun hz g hgl hg h => h.elim (fun h => by omega) (fun e => hxa hz g hg e.symm))) mx hE hout r

set_option maxHeartbeats 4000000 in
theorem indexFunc_any {W w : World} {B b c1 c2 c3 c4 : Nat} {sv : Value} {p : Rd → Bool} {l : List Rd} {a : Option Addr} {cap : Nat} (hC : Clo W a b c1 c2 c3 c4 sv p) (hK : Kp (fun j => W.heap.size ≤ j ∨ some j = blockOf a) W w)
    (hO : Owns w B 57 3 a l.length cap (flat l)) (hal : ∀ g, blockOf a = some g → g < W.heap.size) {o : Option Addr} {co : Nat} {out : List (Int × Int)} (hE : Env w W.heap.size b c1 c2 c3 c4 sv o co out) (hout : out.length + l.length ≤ 1000) :
    Calls Try.prog 36 #[.slice a l.length cap, .func (.func 25) #[] #[.pointer (some ⟨c3, 0, none⟩), .pointer (some ⟨c4, 0, none⟩)]] w fun e w' => Kp (fun j => W.heap.size ≤ j) w w' ∧ ∃ o' co',
      (e = .returned (.int .i64 (-1)) ∧ keep p l = l ∧ toldAll p l = [] ∧ Env w' W.heap.size b c1 c2 c3 c4 sv o' co' out) ∨
      (∃ j : Nat, j < l.length ∧ e = .returned (.int .i64 j) ∧ keep p (l.take (j + 1)) = l.take j ∧ Env w' W.heap.size b c1 c2 c3 c4 sv o' co' (out ++ toldAll p (l.take (j + 1)))) := by
  have HC := Lib.hid hC
  have HR := Lib.hid hO.reads
  have hKs := hK.size
  clear hC
  go_enter Try.func36, Try.ntmps36
  go_wp2_with fail
  go_loopw [8] (fun i wr => ∃ (k : Nat) (o' : Option Addr) (co' : Nat), i = .int .i64 k ∧ k ≤ l.length ∧ keep p (l.take k) = l.take k ∧ toldAll p (l.take k) = [] ∧ Env wr W.heap.size b c1 c2 c3 c4 sv o' co' out ∧ Kp (fun j => W.heap.size ≤ j) w wr) (fun i _ => l.length - (intOf i).toNat)
  case atStart => exact ⟨0, o, co, rfl, Nat.zero_le _, rfl, rfl, hE, Kp.refl _ _⟩
  case round =>
    clear hE
    obtain ⟨k, o', co', rfl, hk, hkeep, htold, hE, hKr⟩ := hrel
    by_cases hlt : k < l.length
    · obtain ⟨g, rfl, d0, d1, d2⟩ := HR.out k hlt
      have hg := hal g rfl
      have hks := keep_succ p l k hlt
      have hts := toldAll_succ p l k hlt
      rw [hkeep] at hks
      rw [htold, List.nil_append] at hts
      have htk : l.take (k + 1) = l.take k ++ [l.getD k default] := by
        rw [List.take_succ_eq_append_getElem hlt]
        simp [List.getD, List.getElem?_eq_getElem hlt]
      generalize l.getD k default = x at d0 d1 d2 hks hts htk
      have e0 := (hKr.cell (p := ⟨g, k * 3, none⟩) (by show g < _; omega) (by show ¬ _ ≤ g; omega)).trans d0
      have e1 := (hKr.cell (p := ⟨g, k * 3 + 1, none⟩) (by show g < _; omega) (by show ¬ _ ≤ g; omega)).trans d1
      have e2 := (hKr.cell (p := ⟨g, k * 3 + 2, none⟩) (by show g < _; omega) (by show ¬ _ ≤ g; omega)).trans d2
      have hcl := HC.out wr o' co' out x (hK.andThen hKr (fun _ _ h => Or.inl h)) hE (by omega)
      have hft := fun j h => (hE.foot j h).1
      have HFT := Lib.hid hft
      have HCL := Lib.hid hcl
      have HKS := Lib.hid hks
      have HTS := Lib.hid hts
      have HTK := Lib.hid htk
      have hkI : (k : Int) < (l.length : Int) := by omega
      have hk0 : (0 : Int) ≤ (k : Int) := by omega
      clear d0 d1 d2 hks hts hcl hE htk hft
      generalize p x = px at HCL HKS HTS
      cases px with
      | true =>
        go_wp2_with (go_at_call 25; refine HCL.out.mono ?_; rintro e w2 ⟨o2, co2, rfl, hE2, hk2⟩)
        go_ret
        exact ⟨hKr.andThen hk2 (fun j _ h => HFT.out j h), o2, co2, Or.inr ⟨k, hlt, rfl, by rw [HKS.out]; simp, by rw [HTS.out]; exact hE2⟩⟩
      | false =>
        go_wp2_with (go_at_call 25; refine HCL.out.mono ?_; rintro e w2 ⟨o2, co2, rfl, hE2, hk2⟩)
        go_roundw
        case rel => exact ⟨k + 1, o2, co2, by go_num, by omega, by rw [HKS.out, HTK.out]; rfl, by rw [HTS.out]; rfl, by simpa [told] using hE2, hKr.andThen hk2 (fun j _ h => HFT.out j h)⟩
        case measure => simp [intOf]; omega
    · have e : l.take k = l := List.take_of_length_le (by omega)
      rw [e] at hkeep htold
      have HK := Lib.hid hkeep
      have HT := Lib.hid htold
      have HE := Lib.hid hE
      clear hkeep htold e hE
      go_wp2_with fail
      go_ret
      exact ⟨hKr, o', co', Or.inl ⟨rfl, HK.out, HT.out, HE.out⟩⟩
end Go.Proofs.Ytdkgbjbfmempdaa
