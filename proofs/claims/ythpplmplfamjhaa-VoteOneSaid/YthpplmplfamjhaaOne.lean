/-
  VoteOne: for every server, every list of asks and every list of bools the law returns true and leaves its arguments as they were. No condition.
-/
import Derived.Test.YthpplmplfamjhaaVAns
import Derived.Test.YthpplmplfamjhaaIl
import Derived.Test.YthpplmplfamjhaaApp
namespace Go.Proofs.Ythpplmplfamjhaa.voteOne
open Go.ChangeShapes Go.WideShapes Go.ChangeAt Go.RowKit Go.Deep
open voteAnswers (At At.drew kpCell open_me)
set_option linter.unusedVariables false

/-- The asks in memory. -/
structure AskE where
  t : Int
  f : Int
  i : Int
  l : Int
def Asks (w : World) (a : Option Addr) (n : Nat) (A : Nat → AskE) : Prop := ∀ k, k < n → ∃ b off, a = some ⟨b, off, none⟩ ∧ w.cell? ⟨b, off + k * 4, none⟩ = some (.int .i64 (A k).t) ∧ w.cell? ⟨b, off + k * 4 + 1, none⟩ = some (.int .i64 (A k).f) ∧
  w.cell? ⟨b, off + k * 4 + 2, none⟩ = some (.int .i64 (A k).i) ∧ w.cell? ⟨b, off + k * 4 + 3, none⟩ = some (.int .i64 (A k).l)
def Bools (w : World) (a : Option Addr) (n : Nat) (F : Nat → Bool) : Prop := ∀ k, k < n → ∃ b off, a = some ⟨b, off, none⟩ ∧ w.cell? ⟨b, off + k, none⟩ = some (.bool (F k))
theorem Asks.kp {W w : World} {a : Option Addr} {n : Nat} {A : Nat → AskE} (h : Asks W a n A) (hk : Kp (fun k => W.heap.size ≤ k) W w) {k : Nat} (hlt : k < n) : ∃ b off, b < W.heap.size ∧ a = some ⟨b, off, none⟩ ∧ w.cell? ⟨b, off + k * 4, none⟩ = some (.int .i64 (A k).t) ∧ w.cell? ⟨b, off + k * 4 + 1, none⟩ = some (.int .i64 (A k).f) ∧
    w.cell? ⟨b, off + k * 4 + 2, none⟩ = some (.int .i64 (A k).i) ∧ w.cell? ⟨b, off + k * 4 + 3, none⟩ = some (.int .i64 (A k).l) := by
  obtain ⟨b, off, e, h0, h1, h2, h3⟩ := h k hlt
  have hb := World.block_lt_of_cell? W _ h0
  have key : ∀ o, w.cell? ⟨b, o, none⟩ = W.cell? ⟨b, o, none⟩ := fun o => hk.cell (p := ⟨b, o, none⟩) hb (by show ¬ W.heap.size ≤ b; exact Nat.not_le.2 hb)
  exact ⟨b, off, hb, e, (key _).trans h0, (key _).trans h1, (key _).trans h2, (key _).trans h3⟩
theorem Bools.kp {W w : World} {a : Option Addr} {n : Nat} {F : Nat → Bool} (h : Bools W a n F) (hk : Kp (fun k => W.heap.size ≤ k) W w) {k : Nat} (hlt : k < n) : ∃ b off, a = some ⟨b, off, none⟩ ∧ w.cell? ⟨b, off + k, none⟩ = some (.bool (F k)) := by
  obtain ⟨b, off, e, h0⟩ := h k hlt
  have hb := World.block_lt_of_cell? W _ h0
  exact ⟨b, off, e, (hk.cell (p := ⟨b, off + k, none⟩) hb (by show ¬ W.heap.size ≤ b; exact Nat.not_le.2 hb)).trans h0⟩

theorem _root_.Go.Proofs.Ythpplmplfamjhaa.Kp.one (w : World) (b o : Nat) (v : Value) : Kp (fun k => k = b) w (w.setCell ⟨b, o, none⟩ v) := (Kp.refl (fun k => k = b) w).setCell (p := ⟨b, o, none⟩) (.inl rfl) v
/-- What is known of whom the server voted for. -/
def Inv (m : List (Int × Value)) (T F : Int) : Prop := (∀ t, getm m t ≠ none → t ≤ T) ∧ (F ≠ -1 → getm m T = some (.int .i64 F)) ∧ (F = -1 → getm m T = none)
theorem inv_start (T F : Int) : Inv (if F = -1 then [] else putm [] T (.int .i64 F)) T F := by
  by_cases h : F = -1
  · rw [if_pos h]
    exact ⟨fun t ht => absurd rfl ht, fun h' => absurd h h', fun _ => rfl⟩
  · rw [if_neg h]
    refine ⟨fun t ht => ?_, fun _ => by simp [putm, getm], fun h' => absurd h' h⟩
    simp only [putm, getm] at ht
    split at ht
    · omega
    · exact absurd rfl ht
/-- What an answer does to it. -/
theorem inv_step {m : List (Int × Value)} {t f i l : Int} {fr : Bool} {at_ from_ ai al : Int} (h : Inv m t f) {T V : Int} {y z : Bool} (e : ans t f i l fr at_ from_ ai al = ⟨T, V, y, z⟩) :
    t ≤ T ∧ ¬ (y = true ∧ z = true) ∧ (z = true → T = t ∧ V = f) ∧ (y = true → T = at_ ∧ (getm m at_ = none ∨ getm m at_ = some (.int .i64 from_)) ∧ Inv (if from_ = -1 then m else putm m at_ (.int .i64 from_)) T V) ∧ (y = false → Inv m T V) := by
  obtain ⟨h1, h2, h3⟩ := h
  have hnone : ∀ t', t < t' → getm m t' = none := fun t' ht => by
    cases hg : getm m t' with
    | none => rfl
    | some v => have := h1 t' (by rw [hg]; simp); omega
  unfold ans at e
  split at e
  · simp only [Ans.mk.injEq] at e
    obtain ⟨rfl, rfl, rfl, rfl⟩ := e
    exact ⟨Int.le_refl _, by simp, fun _ => ⟨rfl, rfl⟩, by simp, fun _ => ⟨h1, h2, h3⟩⟩
  · split at e
    · simp only [Ans.mk.injEq] at e
      obtain ⟨rfl, rfl, rfl, rfl⟩ := e
      exact ⟨Int.le_refl _, by simp, by simp, by simp, fun _ => ⟨h1, h2, h3⟩⟩
    · rename_i hlt
      simp only at e
      by_cases hy : ((if t < at_ then -1 else f) = -1 ∨ (if t < at_ then -1 else f) = from_) ∧ upTo ai al i l = true
      · rw [if_pos hy] at e
        simp only [Ans.mk.injEq] at e
        obtain ⟨rfl, rfl, rfl, rfl⟩ := e
        have hget : getm m at_ = none ∨ getm m at_ = some (.int .i64 from_) := by
          by_cases hgt : t < at_
          · exact .inl (hnone _ hgt)
          · obtain rfl : at_ = t := by omega
            rw [if_neg hgt] at hy
            rcases hy.1 with h | h
            · exact .inl (h3 h)
            · subst h
              by_cases hf : f = -1
              · exact .inl (h3 hf)
              · exact .inr (h2 hf)
        refine ⟨by omega, by simp, by simp, fun _ => ⟨rfl, hget, ?_⟩, by simp⟩
        by_cases hf : from_ = -1
        · rw [if_pos hf]
          refine ⟨fun t' ht => by have := h1 t' ht; omega, fun h' => absurd hf h', fun _ => ?_⟩
          by_cases hgt : t < at_
          · exact hnone _ hgt
          · obtain rfl : at_ = t := by omega
            rw [if_neg hgt] at hy
            rcases hy.1 with h | h
            · exact h3 h
            · exact h3 (h.trans hf)
        · rw [if_neg hf]
          refine ⟨fun t' ht => ?_, fun _ => by rw [getm_putm, if_pos rfl], fun h' => absurd h' hf⟩
          rw [getm_putm] at ht
          split at ht
          · omega
          · have := h1 t' ht; omega
      · rw [if_neg hy] at e
        simp only [Ans.mk.injEq] at e
        obtain ⟨rfl, rfl, rfl, rfl⟩ := e
        refine ⟨by omega, by simp, by simp, by simp, fun _ => ?_⟩
        by_cases hgt : t < at_
        · rw [if_pos hgt]
          exact ⟨fun t' ht => by have := h1 t' ht; omega, fun h' => absurd rfl h', fun _ => hnone _ hgt⟩
        · obtain rfl : at_ = t := by omega
          rw [if_neg hgt]
          exact ⟨h1, h2, h3⟩

/-- What region 9 reads. -/
def Rd (X ba oa k : Nat) (T V i l : Int) (b : Bool) (a : AskE) (w' : World) : Prop :=
  w'.cell? ⟨X, 0, none⟩ = some (.int .i64 T) ∧ w'.cell? ⟨X, 1, none⟩ = some (.int .i64 V) ∧ w'.cell? ⟨X, 2, none⟩ = some (.int .i64 i) ∧ w'.cell? ⟨X, 3, none⟩ = some (.int .i64 l) ∧ w'.cell? ⟨X, 4, none⟩ = some (.bool b) ∧
  w'.cell? ⟨ba, oa + k * 4, none⟩ = some (.int .i64 a.t) ∧ w'.cell? ⟨ba, oa + k * 4 + 1, none⟩ = some (.int .i64 a.f) ∧ w'.cell? ⟨ba, oa + k * 4 + 2, none⟩ = some (.int .i64 a.i) ∧ w'.cell? ⟨ba, oa + k * 4 + 3, none⟩ = some (.int .i64 a.l)
theorem Rd.kp {X ba oa k : Nat} {T V i l : Int} {b : Bool} {a : AskE} {w w' : World} (h : Rd X ba oa k T V i l b a w) (kp : Kp (fun _ => False) w w') : Rd X ba oa k T V i l b a w' := by
  obtain ⟨h0, h1, h2, h3, h4, h5, h6, h7, h8⟩ := h
  exact ⟨kpCell kp h0, kpCell kp h1, kpCell kp h2, kpCell kp h3, kpCell kp h4, kpCell kp h5, kpCell kp h6, kpCell kp h7, kpCell kp h8⟩
theorem At.kp {p : Nat} {T V i l : Int} {fr : Bool} {tm : TypeId} {w w' : World} (h : At p T V i l fr tm w) (k : Kp (fun _ => False) w w') : At p T V i l fr tm w' := k.heap h (fun h => h)
theorem zeroInt (w : World) : (zeroValue 3).run Try.prog w = .ok (.int .i64 0) w := by kernel_rfl
theorem At.store {p : Nat} {T V i l : Int} {fr : Bool} {tm : TypeId} {w : World} (h : At p T V i l fr tm w) (T' V' i' l' : Int) (fr' : Bool) :
    At p T' V' i' l' fr' tm (((((w.setCell ⟨p, 0, none⟩ (.int .i64 T')).setCell ⟨p, 1, none⟩ (.int .i64 V')).setCell ⟨p, 2, none⟩ (.int .i64 i')).setCell ⟨p, 3, none⟩ (.int .i64 l')).setCell ⟨p, 4, none⟩ (.bool fr')) :=
  heap_set (heap_set (heap_set (heap_set (heap_set h 0 _) 1 _) 2 _) 3 _) 4 _
theorem kp5 {S : Nat → Prop} {w : World} {p : Nat} (hp : S p) (a b c d e : Value) : Kp S w (((((w.setCell ⟨p, 0, none⟩ a).setCell ⟨p, 1, none⟩ b).setCell ⟨p, 2, none⟩ c).setCell ⟨p, 3, none⟩ d).setCell ⟨p, 4, none⟩ e) :=
  (((((Kp.refl S w).setCell (p := ⟨p, 0, none⟩) (.inl hp) a).setCell (p := ⟨p, 1, none⟩) (.inl hp) b).setCell (p := ⟨p, 2, none⟩) (.inl hp) c).setCell (p := ⟨p, 3, none⟩) (.inl hp) d).setCell (p := ⟨p, 4, none⟩) (.inl hp) e
def CutY (W : World) (X G : Nat) (T V i l : Int) (b : Bool) (T' V' : Int) (y z : Bool) (m : List (Int × Value)) (s10 s11 s12 : Value) (w : World) : Prop :=
  ∃ p, p ≠ X ∧ p ≠ G ∧ W.heap.size ≤ p ∧ s10 = .pointer (some ⟨p, 0, none⟩) ∧ s11 = .bool y ∧ s12 = .bool z ∧ At p T' V' i l b 26 w ∧ At X T V i l b 26 w ∧ IMap w G m ∧ Kp (fun k => W.heap.size ≤ k) W w

set_option maxRecDepth 100000 in
set_option maxHeartbeats 4000000 in
theorem walk (t f i l : Int) (fr : Bool) (x : Option Addr) (n cx : Nat) (A : Nat → AskE) (y : Option Addr) (nb cy : Nat) (F : Nat → Bool) (W : World) (hA : Asks W x n A) (hF : Bools W y nb F) (mx : n ≤ maxLen) (my : nb ≤ maxLen) :
    Calls Try.prog 5 #[vMe t f i l fr, .slice x n cx, .slice y nb cy] W fun e w' => e = .returned (.bool true) ∧ Below W.heap.size W w' := by
  unfold maxLen at mx my
  have HA := Lib.hid hA
  have HF := Lib.hid hF
  clear hA hF
  have hmm := @run_makeMap Try.prog
  unfold vMe
  go_enter Try.func5, Try.ntmps5
  go_wp2_with fail
  refine (me_any t f i l fr _).mono ?_
  rintro e w1 ⟨rfl, hw1⟩
  have hk1 : Kp (fun k => W.heap.size ≤ k) W w1 := hw1 ▸ (((Kp.refl _ _).alloc _).alloc _).alloc _
  clear hw1
  simp only [vMe]
  go_upto_if 20 with fail
  have hX := heap_old (.map #[] 0) (heap_new w1 (.cells #[.int .i64 t, .int .i64 f, .int .i64 i, .int .i64 l, .bool fr] 26))
  have hG := imap_made (w1.alloc (.cells #[.int .i64 t, .int .i64 f, .int .i64 i, .int .i64 l, .bool fr] 26))
  have hk2 := (hk1.alloc (.cells #[.int .i64 t, .int .i64 f, .int .i64 i, .int .i64 l, .bool fr] 26)).alloc (.map #[] 0)
  simp only [World.size_alloc] at hG
  generalize (w1.alloc (.cells #[.int .i64 t, .int .i64 f, .int .i64 i, .int .i64 l, .bool fr] 26)).alloc (.map #[] 0) = w2 at hX hG hk2 ⊢
  have hbX := hk1.size
  obtain ⟨X, hXe⟩ : ∃ X, X = w1.heap.size := ⟨_, rfl⟩
  rw [← hXe] at hX hG hbX ⊢
  clear hXe hk1
  have hinv := inv_start t f
  have HI := Lib.hid hinv
  clear hinv
  go_cut [8] (fun g w' => g = .map (some (X + 1)) ∧ At X t f i l fr 26 w' ∧ (∃ m, IMap w' (X + 1) m ∧ Inv m t f) ∧ Kp (fun k => W.heap.size ≤ k) W w')
  case first =>
    have c0 := cell_of hX 0 rfl
    have c1 := cell_of hX 1 rfl
    by_cases hf : f = -1
    · subst hf
      go_wp2
      go_meet
      case rel => exact ⟨rfl, hX, ⟨[], hG, HI.out⟩, hk2⟩
    · have hfb : (f != -1) = true := by simp [hf]
      have HI2 : Inv (putm [] t (.int .i64 f)) t f := by have := HI.out; rwa [if_neg hf] at this
      have HJ := Lib.hid HI2
      clear HI2 hf
      go_wp2_with (at_mapUpdate; refine Stop.mk ?_)
      unfold Stop
      refine wpList_update_i Try.underlying42 Try.underlying3 rfl _ _ _ rfl rfl hG rfl rfl ?_
      intro w3 hG3 hk3
      go_wp2
      go_meet
      case rel => exact ⟨rfl, hk3.heap hX (by omega), ⟨_, hG3, HJ.out⟩, hk2.trans (hk3.mono (fun j _ e => by omega))⟩
  case rest =>
    clear hX hG hk2 HI
    obtain ⟨rfl, hX, ⟨m, hG, hI⟩, hk2⟩ := hcut
    go_wp2_with fail
    go_loopw [9] (fun q wr => ∃ (k : Nat) (T V : Int) (b : Bool) (m : List (Int × Value)), q = .int .i64 k ∧ k ≤ n ∧ At X T V i l b 26 wr ∧ IMap wr (X + 1) m ∧ Inv m T V ∧ Kp (fun k => W.heap.size ≤ k) W wr) (fun q _ => n - (intOf q).toNat)
    case atStart => exact ⟨0, t, f, fr, m, rfl, Nat.zero_le _, hX, hG, hI, hk2⟩
    case round =>
      clear hX hG hI hk2
      obtain ⟨k, T, V, b, m, rfl, hk, hX, hG, hI, hK⟩ := hrel
      have HI := Lib.hid hI
      clear hI
      by_cases hlt : k < n
      · obtain ⟨ba, oa, hlba, rfl, e0, e1, e2, e3⟩ := HA.out.kp hK hlt
        have hkI : (k : Int) < (n : Int) := by omega
        have hk0 : (0 : Int) ≤ (k : Int) := by omega
        go_upto_region 8 with fail
        go_cut [9] (fun q w' => q = .int .i64 k ∧ (∃ b, At X T V i l b 26 w') ∧ IMap w' (X + 1) m ∧ Kp (fun k => W.heap.size ≤ k) W w')
        case first =>
          have c4 := cell_of hX 4 rfl
          have f4 := free_of hX 4
          by_cases h2 : k < nb
          · obtain ⟨b2, o2, rfl, e4⟩ := HF.out.kp hK h2
            go_wp2
            go_meet
            case rel => exact ⟨rfl, ⟨_, heap_set hX 4 _⟩, hG.kp (Kp.one _ _ _ _) (by omega), hK.trans ((Kp.one _ _ _ _).mono (fun j _ e => by omega))⟩
          · go_wp2
            go_meet
            case rel => exact ⟨rfl, ⟨_, heap_set hX 4 _⟩, hG.kp (Kp.one _ _ _ _) (by omega), hK.trans ((Kp.one _ _ _ _).mono (fun j _ e => by omega))⟩
        case rest =>
          clear hX hG hK e0 e1 e2 e3
          obtain ⟨rfl, ⟨b', hX⟩, hG, hK⟩ := hcut
          go_upto_region 9 with fail
          obtain ⟨_, _, _, e9, e0, e1, e2, e3⟩ := HA.out.kp hK hlt
          cases e9
          obtain ⟨a, ha⟩ : ∃ a, a = A k := ⟨_, rfl⟩
          rw [← ha] at e0 e1 e2 e3
          have HAK := Lib.hid ha
          clear ha
          obtain ⟨a_t, a_f, a_i, a_l⟩ := a
          simp only at e0 e1 e2 e3
          obtain ⟨R, hR⟩ : ∃ R, R = ans T V i l b' a_t a_f a_i a_l := ⟨_, rfl⟩
          obtain ⟨T', V', y', z'⟩ := R
          have hP := fun w => answer_prog T V i l b' a_t a_f a_i a_l w
          have hst := inv_step HI.out hR.symm
          rw [← hR] at hP
          clear hR
          have HP := Lib.hid hP
          have HST := Lib.hid hst
          clear hP hst
          have hrd : Rd X ba oa k T V i l b' ⟨a_t, a_f, a_i, a_l⟩ wc := ⟨cell_of hX 0 rfl, cell_of hX 1 rfl, cell_of hX 2 rfl, cell_of hX 3 rfl, cell_of hX 4 rfl, e0, e1, e2, e3⟩
          have hrd' := hrd
          unfold Rd at hrd'
          obtain ⟨c0, c1, c2, c3, c4, c5, c6, c7, c8⟩ := hrd'
          simp only at c5 c6 c7 c8
          clear e0 e1 e2 e3
          have hX1 := lt_of_block hX
          have hG1 := hG.lt
          have hs1 := hK.size
          go_cut [10, 11, 12] (fun s10 s11 s12 w' => CutY W X (X + 1) T V i l b' T' V' y' z' m s10 s11 s12 w' ∧ Rd X ba oa k T V i l b' ⟨a_t, a_f, a_i, a_l⟩ w')
          case first =>
            go_region_held3 (fun w' => w'.cell? ⟨X, 0, none⟩ = some (.int .i64 T) ∧ w'.cell? ⟨X, 1, none⟩ = some (.int .i64 V) ∧ w'.cell? ⟨X, 2, none⟩ = some (.int .i64 i) ∧ w'.cell? ⟨X, 3, none⟩ = some (.int .i64 l) ∧ w'.cell? ⟨X, 4, none⟩ = some (.bool b') ∧ w'.cell? ⟨ba, oa + k * 4, none⟩ = some (.int .i64 a_t) ∧ w'.cell? ⟨ba, oa + k * 4 + 1, none⟩ = some (.int .i64 a_f) ∧ w'.cell? ⟨ba, oa + k * 4 + 2, none⟩ = some (.int .i64 a_i) ∧ w'.cell? ⟨ba, oa + k * 4 + 3, none⟩ = some (.int .i64 a_l)) ((refine Rd.kp hrd ?_; (repeat (first | exact Kp.refl _ _ | apply Kp.drew | apply Kp.alloc))))
              (first | (go_at_call 11; refine (ask_any a_t a_f a_i a_l _).mono ?_; rintro e w1 ⟨rfl, rfl⟩) | (go_at_call 9; refine (HP.out _).mono ?_; rintro e w3 ⟨rfl, rfl⟩; simp only [vAns, vMe, ansW]))
            all_goals go_wp2
            all_goals go_meet
            all_goals
              case rel =>
                refine ⟨⟨_, ?_, ?_, ?_, rfl, rfl, rfl, ?_, ?_, ?_, ?_⟩, ?_⟩
                · first | omega | (simp; omega)
                · first | omega | (simp; omega)
                · first | omega | (simp; omega)
                · refine At.drew ?_
                  unfold At
                  repeat (first | (refine heap_at _ ?_; (simp; done)) | refine heap_old _ ?_)
                · refine voteOne.At.kp hX ?_
                  repeat (first | exact Kp.refl _ _ | apply Kp.drew | apply Kp.alloc)
                · refine IMap.kp hG (S := fun _ => False) ?_ (fun h => h)
                  repeat (first | exact Kp.refl _ _ | apply Kp.drew | apply Kp.alloc)
                · refine hK.trans ?_
                  repeat (first | exact Kp.refl _ _ | apply Kp.drew | apply Kp.alloc)
                · refine Rd.kp hrd ?_
                  repeat (first | exact Kp.refl _ _ | apply Kp.drew | apply Kp.alloc)
          case rest =>
            clear c0 c1 c2 c3 c4 c5 c6 c7 c8 hX hG hK hX1 hG1 hs1 hrd
            obtain ⟨⟨p, hpX, hpG, hpW, rfl, rfl, rfl, hY, hX, hG, hK⟩, hrd⟩ := hcut
            have hrd' := hrd
            unfold Rd at hrd'
            obtain ⟨c0, c1, c2, c3, c4, c5, c6, c7, c8⟩ := hrd'
            simp only at c5 c6 c7 c8
            have d0 : wc.cell? ⟨p, 0, none⟩ = some (.int .i64 T') := cell_of hY 0 rfl
            have d1 : wc.cell? ⟨p, 1, none⟩ = some (.int .i64 V') := cell_of hY 1 rfl
            have d2 : wc.cell? ⟨p, 2, none⟩ = some (.int .i64 i) := cell_of hY 2 rfl
            have d3 : wc.cell? ⟨p, 3, none⟩ = some (.int .i64 l) := cell_of hY 3 rfl
            have d4 : wc.cell? ⟨p, 4, none⟩ = some (.bool b') := cell_of hY 4 rfl
            have f0 : wc.frozen? ⟨X, 0, none⟩ = false := free_of hX 0
            have f1 : wc.frozen? ⟨X, 1, none⟩ = false := free_of hX 1
            have f2 : wc.frozen? ⟨X, 2, none⟩ = false := free_of hX 2
            have f3 : wc.frozen? ⟨X, 3, none⟩ = false := free_of hX 3
            have f4 : wc.frozen? ⟨X, 4, none⟩ = false := free_of hX 4
            have hgd := fun (x y : Operand) (A B : Array Value) (w : World) => guard26 .neq x y A B w
            obtain ⟨g1, g2, g3, g4, g5⟩ := HST.out
            have HG3 := Lib.hid g3
            have HG4 := Lib.hid g4
            have HG5 := Lib.hid g5
            clear HST g3 g4 g5
            have hnl : ¬ T' < T := by omega
            cases z' with
            | true =>
              cases y' with
              | true => exact absurd ⟨rfl, rfl⟩ g2
              | false =>
                obtain ⟨rfl, rfl⟩ := HG3.out rfl
                have hneq : ∀ w, (binOp .neq 26 (.agg #[.int .i64 T', .int .i64 V', .int .i64 i, .int .i64 l, .bool b']) (.agg #[.int .i64 T', .int .i64 V', .int .i64 i, .int .i64 l, .bool b'])).run Try.prog w = .ok (.bool false) w := fun w => by rw [neq26]; simp
                go_wp2_with fail
                go_roundw
                case rel => first | exact ⟨k + 1, _, _, _, _, by go_num, by omega, voteOne.At.store hX _ _ _ _ _, IMap.kp hG (kp5 (S := fun j => j = X) rfl _ _ _ _ _) (by omega), HG5.out (by first | rfl | trivial), hK.trans (kp5 (by omega) _ _ _ _ _)⟩ | ((repeat apply Exists.intro); exact ⟨⟨k + 1, _, _, _, _, by go_num, by omega, voteOne.At.store hX _ _ _ _ _, IMap.kp hG (kp5 (S := fun j => j = X) rfl _ _ _ _ _) (by omega), HG5.out (by first | rfl | trivial), hK.trans (kp5 (by omega) _ _ _ _ _)⟩, rfl⟩)
                case measure => simp [intOf]; omega
            | false =>
              cases y' with
              | false =>
                go_wp2_with fail
                go_roundw
                case rel => first | exact ⟨k + 1, _, _, _, _, by go_num, by omega, voteOne.At.store hX _ _ _ _ _, IMap.kp hG (kp5 (S := fun j => j = X) rfl _ _ _ _ _) (by omega), HG5.out (by first | rfl | trivial), hK.trans (kp5 (by omega) _ _ _ _ _)⟩ | ((repeat apply Exists.intro); exact ⟨⟨k + 1, _, _, _, _, by go_num, by omega, voteOne.At.store hX _ _ _ _ _, IMap.kp hG (kp5 (S := fun j => j = X) rfl _ _ _ _ _) (by omega), HG5.out (by first | rfl | trivial), hK.trans (kp5 (by omega) _ _ _ _ _)⟩, rfl⟩)
                case measure => simp [intOf]; omega
              | true =>
                obtain ⟨rfl, hget, hinv⟩ := HG4.out (by first | rfl | trivial)
                have HN := Lib.hid hinv
                clear hinv HG4 HG5 HG3
                rcases hget with hget | hget
                · have hv : (getm m T').getD (.int .i64 0) = .int .i64 0 := by rw [hget]; rfl
                  have hs : (getm m T').isSome = false := by rw [hget]; rfl
                  have HV := Lib.hid hv
                  have HS := Lib.hid hs
                  clear hget hv hs
                  go_wp2_with (at_lookup; refine Stop.mk ?_)
                  unfold Stop
                  refine wpList_lookup2_i Try.underlying42 Try.underlying3 rfl _ _ rfl rfl hG zeroInt rfl HV.out HS.out ?_
                  go_wp2_with fail
                  go_quiet (fail)
                  have hY2 : At p T' V' i l b' 26 (wc.drewN nq) := hY
                  have hX2 : At X T V i l b' 26 (wc.drewN nq) := hX
                  have hG2 : IMap (wc.drewN nq) (X + 1) m := hG
                  have hK2 : Kp (fun k => W.heap.size ≤ k) W (wc.drewN nq) := hK.drewN _
                  have k5 : (wc.drewN nq).cell? ⟨ba, oa + k * 4, none⟩ = some (.int .i64 T') := c5
                  have k6 : (wc.drewN nq).cell? ⟨ba, oa + k * 4 + 1, none⟩ = some (.int .i64 a_f) := c6
                  clear c0 c1 c2 c3 c4 c5 c6 c7 c8 d0 d1 d2 d3 d4 f0 f1 f2 f3 f4 hY hX hG hK hrd hgd
                  generalize wc.drewN nq = wd at hY2 hX2 hG2 hK2 k5 k6 ⊢
                  by_cases hm : a_f = -1
                  · have HI3 : Inv m T' V' := by have := HN.out; rwa [if_pos hm] at this
                    have HJ := Lib.hid HI3
                    clear HI3
                    subst hm
                    have c0 : wd.cell? ⟨X, 0, none⟩ = some (.int .i64 T) := cell_of hX2 0 rfl
                    have f0 : wd.frozen? ⟨X, 0, none⟩ = false := free_of hX2 0
                    have c1 : wd.cell? ⟨X, 1, none⟩ = some (.int .i64 V) := cell_of hX2 1 rfl
                    have f1 : wd.frozen? ⟨X, 1, none⟩ = false := free_of hX2 1
                    have c2 : wd.cell? ⟨X, 2, none⟩ = some (.int .i64 i) := cell_of hX2 2 rfl
                    have f2 : wd.frozen? ⟨X, 2, none⟩ = false := free_of hX2 2
                    have c3 : wd.cell? ⟨X, 3, none⟩ = some (.int .i64 l) := cell_of hX2 3 rfl
                    have f3 : wd.frozen? ⟨X, 3, none⟩ = false := free_of hX2 3
                    have c4 : wd.cell? ⟨X, 4, none⟩ = some (.bool b') := cell_of hX2 4 rfl
                    have f4 : wd.frozen? ⟨X, 4, none⟩ = false := free_of hX2 4
                    have d0 : wd.cell? ⟨p, 0, none⟩ = some (.int .i64 T') := cell_of hY2 0 rfl
                    have d1 : wd.cell? ⟨p, 1, none⟩ = some (.int .i64 V') := cell_of hY2 1 rfl
                    have d2 : wd.cell? ⟨p, 2, none⟩ = some (.int .i64 i) := cell_of hY2 2 rfl
                    have d3 : wd.cell? ⟨p, 3, none⟩ = some (.int .i64 l) := cell_of hY2 3 rfl
                    have d4 : wd.cell? ⟨p, 4, none⟩ = some (.bool b') := cell_of hY2 4 rfl
                    have hX := hX2
                    have hG := hG2
                    have hK := hK2
                    clear hX2 hY2 hG2 hK2
                    go_wp2_with fail
                    go_roundw
                    case rel => first | exact ⟨k + 1, _, _, _, _, by go_num, by omega, voteOne.At.store hX _ _ _ _ _, IMap.kp hG (kp5 (S := fun j => j = X) rfl _ _ _ _ _) (by omega), HJ.out, hK.trans (kp5 (by omega) _ _ _ _ _)⟩ | ((repeat apply Exists.intro); exact ⟨⟨k + 1, _, _, _, _, by go_num, by omega, voteOne.At.store hX _ _ _ _ _, IMap.kp hG (kp5 (S := fun j => j = X) rfl _ _ _ _ _) (by omega), HJ.out, hK.trans (kp5 (by omega) _ _ _ _ _)⟩, rfl⟩)
                    case measure => simp [intOf]; omega
                  · have HI3 : Inv (putm m T' (.int .i64 a_f)) T' V' := by have := HN.out; rwa [if_neg hm] at this
                    have HJ := Lib.hid HI3
                    clear HI3
                    have hfb : (a_f != -1) = true := by simp [hm]
                    go_upto_region 17 with fail
                    go_still_tail 11, (by kernel_rfl)
                    change wpList _ _ _ _ _ wd.drew
                    refine wpList_update_i Try.underlying42 Try.underlying3 rfl _ _ _ rfl rfl (show IMap wd.drew (X + 1) m from hG2) rfl rfl ?_
                    intro we hG hke
                    have hX : At X T V i l b' 26 we := hke.heap (show wd.drew.heap[X]? = _ from hX2) (by omega)
                    have hY : At p T' V' i l b' 26 we := hke.heap (show wd.drew.heap[p]? = _ from hY2) hpG
                    have hK : Kp (fun k => W.heap.size ≤ k) W we := hK2.drew.trans (hke.mono (fun j _ e => by omega))
                    clear k5 k6 hX2 hY2 hG2 hK2 hke
                    have c0 : we.cell? ⟨X, 0, none⟩ = some (.int .i64 T) := cell_of hX 0 rfl
                    have f0 : we.frozen? ⟨X, 0, none⟩ = false := free_of hX 0
                    have c1 : we.cell? ⟨X, 1, none⟩ = some (.int .i64 V) := cell_of hX 1 rfl
                    have f1 : we.frozen? ⟨X, 1, none⟩ = false := free_of hX 1
                    have c2 : we.cell? ⟨X, 2, none⟩ = some (.int .i64 i) := cell_of hX 2 rfl
                    have f2 : we.frozen? ⟨X, 2, none⟩ = false := free_of hX 2
                    have c3 : we.cell? ⟨X, 3, none⟩ = some (.int .i64 l) := cell_of hX 3 rfl
                    have f3 : we.frozen? ⟨X, 3, none⟩ = false := free_of hX 3
                    have c4 : we.cell? ⟨X, 4, none⟩ = some (.bool b') := cell_of hX 4 rfl
                    have f4 : we.frozen? ⟨X, 4, none⟩ = false := free_of hX 4
                    have d0 : we.cell? ⟨p, 0, none⟩ = some (.int .i64 T') := cell_of hY 0 rfl
                    have d1 : we.cell? ⟨p, 1, none⟩ = some (.int .i64 V') := cell_of hY 1 rfl
                    have d2 : we.cell? ⟨p, 2, none⟩ = some (.int .i64 i) := cell_of hY 2 rfl
                    have d3 : we.cell? ⟨p, 3, none⟩ = some (.int .i64 l) := cell_of hY 3 rfl
                    have d4 : we.cell? ⟨p, 4, none⟩ = some (.bool b') := cell_of hY 4 rfl
                    go_wp2_with fail
                    go_roundw
                    case rel => first | exact ⟨k + 1, _, _, _, _, by go_num, by omega, voteOne.At.store hX _ _ _ _ _, IMap.kp hG (kp5 (S := fun j => j = X) rfl _ _ _ _ _) (by omega), HJ.out, hK.trans (kp5 (by omega) _ _ _ _ _)⟩ | ((repeat apply Exists.intro); exact ⟨⟨k + 1, _, _, _, _, by go_num, by omega, voteOne.At.store hX _ _ _ _ _, IMap.kp hG (kp5 (S := fun j => j = X) rfl _ _ _ _ _) (by omega), HJ.out, hK.trans (kp5 (by omega) _ _ _ _ _)⟩, rfl⟩)
                    case measure => simp [intOf]; omega
                · have hv : (getm m T').getD (.int .i64 0) = .int .i64 a_f := by rw [hget]; rfl
                  have hs : (getm m T').isSome = true := by rw [hget]; rfl
                  have HV := Lib.hid hv
                  have HS := Lib.hid hs
                  clear hget hv hs
                  go_wp2_with (at_lookup; refine Stop.mk ?_)
                  unfold Stop
                  refine wpList_lookup2_i Try.underlying42 Try.underlying3 rfl _ _ rfl rfl hG zeroInt rfl HV.out HS.out ?_
                  go_wp2_with fail
                  go_quiet (fail)
                  have hY2 : At p T' V' i l b' 26 (wc.drewN nq) := hY
                  have hX2 : At X T V i l b' 26 (wc.drewN nq) := hX
                  have hG2 : IMap (wc.drewN nq) (X + 1) m := hG
                  have hK2 : Kp (fun k => W.heap.size ≤ k) W (wc.drewN nq) := hK.drewN _
                  have k5 : (wc.drewN nq).cell? ⟨ba, oa + k * 4, none⟩ = some (.int .i64 T') := c5
                  have k6 : (wc.drewN nq).cell? ⟨ba, oa + k * 4 + 1, none⟩ = some (.int .i64 a_f) := c6
                  clear c0 c1 c2 c3 c4 c5 c6 c7 c8 d0 d1 d2 d3 d4 f0 f1 f2 f3 f4 hY hX hG hK hrd hgd
                  generalize wc.drewN nq = wd at hY2 hX2 hG2 hK2 k5 k6 ⊢
                  by_cases hm : a_f = -1
                  · have HI3 : Inv m T' V' := by have := HN.out; rwa [if_pos hm] at this
                    have HJ := Lib.hid HI3
                    clear HI3
                    subst hm
                    have c0 : wd.cell? ⟨X, 0, none⟩ = some (.int .i64 T) := cell_of hX2 0 rfl
                    have f0 : wd.frozen? ⟨X, 0, none⟩ = false := free_of hX2 0
                    have c1 : wd.cell? ⟨X, 1, none⟩ = some (.int .i64 V) := cell_of hX2 1 rfl
                    have f1 : wd.frozen? ⟨X, 1, none⟩ = false := free_of hX2 1
                    have c2 : wd.cell? ⟨X, 2, none⟩ = some (.int .i64 i) := cell_of hX2 2 rfl
                    have f2 : wd.frozen? ⟨X, 2, none⟩ = false := free_of hX2 2
                    have c3 : wd.cell? ⟨X, 3, none⟩ = some (.int .i64 l) := cell_of hX2 3 rfl
                    have f3 : wd.frozen? ⟨X, 3, none⟩ = false := free_of hX2 3
                    have c4 : wd.cell? ⟨X, 4, none⟩ = some (.bool b') := cell_of hX2 4 rfl
                    have f4 : wd.frozen? ⟨X, 4, none⟩ = false := free_of hX2 4
                    have d0 : wd.cell? ⟨p, 0, none⟩ = some (.int .i64 T') := cell_of hY2 0 rfl
                    have d1 : wd.cell? ⟨p, 1, none⟩ = some (.int .i64 V') := cell_of hY2 1 rfl
                    have d2 : wd.cell? ⟨p, 2, none⟩ = some (.int .i64 i) := cell_of hY2 2 rfl
                    have d3 : wd.cell? ⟨p, 3, none⟩ = some (.int .i64 l) := cell_of hY2 3 rfl
                    have d4 : wd.cell? ⟨p, 4, none⟩ = some (.bool b') := cell_of hY2 4 rfl
                    have hX := hX2
                    have hG := hG2
                    have hK := hK2
                    clear hX2 hY2 hG2 hK2
                    go_wp2_with fail
                    go_roundw
                    case rel => first | exact ⟨k + 1, _, _, _, _, by go_num, by omega, voteOne.At.store hX _ _ _ _ _, IMap.kp hG (kp5 (S := fun j => j = X) rfl _ _ _ _ _) (by omega), HJ.out, hK.trans (kp5 (by omega) _ _ _ _ _)⟩ | ((repeat apply Exists.intro); exact ⟨⟨k + 1, _, _, _, _, by go_num, by omega, voteOne.At.store hX _ _ _ _ _, IMap.kp hG (kp5 (S := fun j => j = X) rfl _ _ _ _ _) (by omega), HJ.out, hK.trans (kp5 (by omega) _ _ _ _ _)⟩, rfl⟩)
                    case measure => simp [intOf]; omega
                  · have HI3 : Inv (putm m T' (.int .i64 a_f)) T' V' := by have := HN.out; rwa [if_neg hm] at this
                    have HJ := Lib.hid HI3
                    clear HI3
                    have hfb : (a_f != -1) = true := by simp [hm]
                    go_upto_region 17 with fail
                    go_still_tail 11, (by kernel_rfl)
                    change wpList _ _ _ _ _ wd.drew
                    refine wpList_update_i Try.underlying42 Try.underlying3 rfl _ _ _ rfl rfl (show IMap wd.drew (X + 1) m from hG2) rfl rfl ?_
                    intro we hG hke
                    have hX : At X T V i l b' 26 we := hke.heap (show wd.drew.heap[X]? = _ from hX2) (by omega)
                    have hY : At p T' V' i l b' 26 we := hke.heap (show wd.drew.heap[p]? = _ from hY2) hpG
                    have hK : Kp (fun k => W.heap.size ≤ k) W we := hK2.drew.trans (hke.mono (fun j _ e => by omega))
                    clear k5 k6 hX2 hY2 hG2 hK2 hke
                    have c0 : we.cell? ⟨X, 0, none⟩ = some (.int .i64 T) := cell_of hX 0 rfl
                    have f0 : we.frozen? ⟨X, 0, none⟩ = false := free_of hX 0
                    have c1 : we.cell? ⟨X, 1, none⟩ = some (.int .i64 V) := cell_of hX 1 rfl
                    have f1 : we.frozen? ⟨X, 1, none⟩ = false := free_of hX 1
                    have c2 : we.cell? ⟨X, 2, none⟩ = some (.int .i64 i) := cell_of hX 2 rfl
                    have f2 : we.frozen? ⟨X, 2, none⟩ = false := free_of hX 2
                    have c3 : we.cell? ⟨X, 3, none⟩ = some (.int .i64 l) := cell_of hX 3 rfl
                    have f3 : we.frozen? ⟨X, 3, none⟩ = false := free_of hX 3
                    have c4 : we.cell? ⟨X, 4, none⟩ = some (.bool b') := cell_of hX 4 rfl
                    have f4 : we.frozen? ⟨X, 4, none⟩ = false := free_of hX 4
                    have d0 : we.cell? ⟨p, 0, none⟩ = some (.int .i64 T') := cell_of hY 0 rfl
                    have d1 : we.cell? ⟨p, 1, none⟩ = some (.int .i64 V') := cell_of hY 1 rfl
                    have d2 : we.cell? ⟨p, 2, none⟩ = some (.int .i64 i) := cell_of hY 2 rfl
                    have d3 : we.cell? ⟨p, 3, none⟩ = some (.int .i64 l) := cell_of hY 3 rfl
                    have d4 : we.cell? ⟨p, 4, none⟩ = some (.bool b') := cell_of hY 4 rfl
                    go_wp2_with fail
                    go_roundw
                    case rel => first | exact ⟨k + 1, _, _, _, _, by go_num, by omega, voteOne.At.store hX _ _ _ _ _, IMap.kp hG (kp5 (S := fun j => j = X) rfl _ _ _ _ _) (by omega), HJ.out, hK.trans (kp5 (by omega) _ _ _ _ _)⟩ | ((repeat apply Exists.intro); exact ⟨⟨k + 1, _, _, _, _, by go_num, by omega, voteOne.At.store hX _ _ _ _ _, IMap.kp hG (kp5 (S := fun j => j = X) rfl _ _ _ _ _) (by omega), HJ.out, hK.trans (kp5 (by omega) _ _ _ _ _)⟩, rfl⟩)
                    case measure => simp [intOf]; omega
      · go_wp2_with (go_at_call 15; refine (knows_any _).mono ?_; rintro e w5 ⟨rfl, hkk⟩)
        go_ret
        exact ⟨rfl, Kp.belowW (hK.trans hkk.no)⟩

instance : Inhabited AskE := ⟨⟨0, 0, 0, 0⟩⟩
theorem open_asks {H : Type} {enc : TypeId × Value → H} {W : World} {base : Nat} {v : Value} {d : DataW H} {p : List MemPlace} (ho : Value.okWide Try.prog W .any base 40 v)
    (h : DataW.Trod enc Try.prog W 0 (fun _ => true) true 40 v d p) : ∃ a n cap A, v = .slice a n cap ∧ n ≤ maxLen ∧ Asks W a n A := by
  obtain ⟨a0, len, cap, rfl⟩ := okWide_slice Try.underlying40 ho
  obtain ⟨fuel, hf⟩ := h
  have h4 : Try.prog.cellsOf 25 = 4 := by kernel_rfl
  have hf' : DataW.trod enc Try.prog W 0 (fun _ => true) true fuel 40 [.slice a0 len cap] = some (d, p) := hf
  obtain ⟨a, len', cap', e, hle, hmx, hel⟩ := open_elems Try.underlying40 (by rw [h4]; decide) hf'
  cases e
  have key : ∀ i, i < len → ∃ z : AskE, ∃ b off, a0 = some ⟨b, off, none⟩ ∧ W.cell? ⟨b, off + i * 4, none⟩ = some (.int .i64 z.t) ∧ W.cell? ⟨b, off + i * 4 + 1, none⟩ = some (.int .i64 z.f) ∧ W.cell? ⟨b, off + i * 4 + 2, none⟩ = some (.int .i64 z.i) ∧ W.cell? ⟨b, off + i * 4 + 3, none⟩ = some (.int .i64 z.l) := by
    intro i hi
    obtain ⟨b, off, cs, n, y, ha, hl, hc, ht⟩ := hel i hi
    rw [h4] at hl hc
    obtain ⟨_, m, hg⟩ := open_fields Try.underlying25 (by kernel_rfl) ht
    obtain ⟨c0, _, e0, t0⟩ := hg 0 _ rfl (by kernel_rfl)
    obtain ⟨c1, _, e1, t1⟩ := hg 1 _ rfl (by kernel_rfl)
    obtain ⟨c2, _, e2, t2⟩ := hg 2 _ rfl (by kernel_rfl)
    obtain ⟨c3, _, e3, t3⟩ := hg 3 _ rfl (by kernel_rfl)
    obtain ⟨z0, rfl, _⟩ := open_cell_int Try.underlying3 t0
    obtain ⟨z1, rfl, _⟩ := open_cell_int Try.underlying3 t1
    obtain ⟨z2, rfl, _⟩ := open_cell_int Try.underlying3 t2
    obtain ⟨z3, rfl, _⟩ := open_cell_int Try.underlying3 t3
    exact ⟨⟨z0, z1, z2, z3⟩, b, off, ha, (hc 0 (by omega)).trans e0, (hc 1 (by omega)).trans e1, (hc 2 (by omega)).trans e2, (hc 3 (by omega)).trans e3⟩
  obtain ⟨A, hA⟩ := choose_lt key
  exact ⟨a0, len, cap, A, rfl, by omega, fun k hk => hA k hk⟩
theorem open_bools {H : Type} {enc : TypeId × Value → H} {W : World} {base : Nat} {v : Value} {d : DataW H} {p : List MemPlace} (ho : Value.okWide Try.prog W .any base 41 v)
    (h : DataW.Trod enc Try.prog W 0 (fun _ => true) true 41 v d p) : ∃ a n cap F, v = .slice a n cap ∧ n ≤ maxLen ∧ Bools W a n F := by
  obtain ⟨a0, len, cap, rfl⟩ := okWide_slice Try.underlying41 ho
  obtain ⟨fuel, hf⟩ := h
  have h1 : Try.prog.cellsOf 4 = 1 := by kernel_rfl
  have hf' : DataW.trod enc Try.prog W 0 (fun _ => true) true fuel 41 [.slice a0 len cap] = some (d, p) := hf
  obtain ⟨a, len', cap', e, hle, hmx, hel⟩ := open_elems Try.underlying41 (by rw [h1]; decide) hf'
  cases e
  have key : ∀ i, i < len → ∃ z : Bool, ∃ b off, a0 = some ⟨b, off, none⟩ ∧ W.cell? ⟨b, off + i, none⟩ = some (.bool z) := by
    intro i hi
    obtain ⟨b, off, cs, n, y, ha, hl, hc, ht⟩ := hel i hi
    rw [h1] at hl hc
    match cs, hl with
    | [c], _ =>
      obtain ⟨z, rfl⟩ := open_cell_bool Try.underlying4 ht
      have := hc 0 (by omega)
      exact ⟨z, b, off, ha, by simpa using this⟩
  obtain ⟨F, hF⟩ := choose_lt key
  exact ⟨a0, len, cap, F, rfl, by omega, fun k hk => hF k hk⟩

set_option maxRecDepth 100000 in
theorem lifted (os : Os) (started : os.Started) (H : Type) (enc : TypeId × Value → H) :
    ReturnsInHanded {} Try.checked os 5 .any (Rows.voteOneSpec.pre6 enc Try.prog Try.f5 Rows.voteOneRow.domain false) (Rows.voteOneSpec.post enc Try.prog Try.f5 false true false false) := by
  refine returnsInHanded_of_change (C := Try.checked) own started (by kernel_rfl) Try.func5
    (ChangeSpec.witness6 (enc := enc) (C := Try.checked) false ⟨#[], #[.agg #[.int .i64 0, .int .i64 0, .int .i64 0, .int .i64 0, .bool false], .slice none 0 0, .slice none 0 0], []⟩ 8 (by kernel_rfl) (by kernel_rfl) (by kernel_rfl) (by kernel_rfl)) ?_
  intro W base args ds gs before hval0 hW _ _
  have hval : ∀ (j : Nat) t v, Try.f5.params[j]? = some t → args[j]? = some v → Value.okWide Try.prog W .any base t v := hval0
  have hW' := hW
  obtain ⟨p, q, hA0, hV, rfl, hfz, hnd⟩ := hW
  have hA : DataW.TrodAll enc Try.prog W 0 (fun _ => true) true Try.f5.params.toList args.toList ds p := hA0
  rw [Try.params5] at hA hval
  obtain ⟨v0, vs0, d0, ds0, p0, q0, hargs, rfl, rfl, h0, r0⟩ := trodAll_cons hA
  obtain ⟨v1, vs1, d1, ds1, p1, q1, rfl, rfl, rfl, h1, r1⟩ := trodAll_cons r0
  obtain ⟨v2, vs2, d2, ds2, p2, q2, rfl, rfl, rfl, h2, r2⟩ := trodAll_cons r1
  obtain ⟨rfl, rfl, rfl⟩ := trodAll_nil r2
  obtain rfl : args = #[v0, v1, v2] := by cases args; simp_all
  obtain ⟨rfl, rfl⟩ := trodVars_none hV
  have o0 := hval 0 23 v0 rfl rfl
  have o1 := hval 1 40 v1 rfl rfl
  have o2 := hval 2 41 v2 rfl rfl
  obtain ⟨t, f, i, l, fr, rfl⟩ := open_me o0 h0
  obtain ⟨x, n, cx, A, rfl, mx, hAs⟩ := open_asks o1 h1
  obtain ⟨y, nb, cy, F, rfl, my, hF⟩ := open_bools o2 h2
  refine (walk t f i l fr x n cx A y nb cy F W hAs hF mx my).mono fun e W' ⟨he, hg⟩ => ?_
  subst he
  exact ⟨_, rfl, law_post laidOut (of_decide_eq_true (by kernel_rfl)) rfl Try.underlying4 rfl ⟨rfl, rfl, rfl⟩ hW' hg⟩

theorem over : Rows.voteOneRow.holds Try.pinned (OpenSpec.ofChange Rows.voteOneSpec) :=
  OpenClaim.holds_of_wide 5 Try.f5 rfl rfl rfl rfl rfl rfl rfl ⟨rfl, rfl, rfl, rfl, rfl⟩ rfl rfl rfl rfl rfl (by kernel_rfl) Try.func5 (by kernel_rfl)
    (of_decide_eq_true (by kernel_rfl)) (by unfold Func.isWrapper; first | (rw [if_pos (by decide +kernel)]; kernel_rfl) | (rw [if_neg (by decide +kernel)]; exact ⟨rfl, rfl⟩))
    (fun os started H enc _ => lifted os started H enc)

theorem proved : Rows.VoteOneSaid :=
  over
#print axioms proved
end Go.Proofs.Ythpplmplfamjhaa.voteOne
