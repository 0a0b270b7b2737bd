/-
  Scan and stable.Get, each walked once.
-/
import Derived.Test.YtecohkoekifeiaaGreatDoorXe
import Derived.Test.YtecohkoekifeiaaGreatDoorXd
set_option linter.all false
namespace Go.Proofs.YtecohkoekifeiaaGreatDoor
open Go.RowKit Go.Shelf
set_option linter.unusedVariables false
set_option linter.unusedSimpArgs false
attribute [local go_sem] Oper.semAt_some

/-- The activation in a round. -/
def scA (a : Option Addr) (len c s : Nat) (x : Fi) (b6 : Nat) : Act :=
  { tmps := #[.slice a len c, undef, .pointer (some ⟨s, 0, none⟩), .pointer (some ⟨s + 1, 0, none⟩), .bool false, .int .i64 (x.at_ : Int), .pointer (some ⟨b6, 0, none⟩), .slice a len c, .func (.func 62) #[] #[.pointer (some ⟨s + 2, 0, none⟩)], .int .i64 (x.at_ : Int), x.frame, undef, undef, undef, undef, undef, undef, undef, undef, undef, undef, undef], defers := [] }
def ScT (B : Nat) (a : Option Addr) (len c s : Nat) (x : Fi) (a1 : Act) (W : World) : Prop :=
  ∃ b6, B ≤ b6 ∧ a1 = scA a len c s x b6 ∧ W.heap[b6]? = some (.cells #[.int .i64 x.k, .slice x.ad x.d.length x.cap] 83 (0, 0)) ∧ Fi.here B x W

theorem ScT.obj {B : Nat} {a : Option Addr} {len c s : Nat} {x : Fi} {a1 : Act} {W : World} (h : ScT B a len c s x a1 W) {l : Nat} {o : Obj} (o' : Obj) (hl : W.heap[l]? = some o) (hc : o.isCells = false) : ScT B a len c s x a1 (W.putObj l o') := by
  obtain ⟨b6, hb, rfl, h6, hh⟩ := h
  refine ⟨b6, hb, rfl, ?_, hh.obj o' hl hc⟩
  have hne : b6 ≠ l := by
    rintro rfl
    rw [h6] at hl
    cases hl
    cases hc
  exact (World.putObj_heap_other hne).trans h6

theorem wpIn_only {F : Fence} {n : Nat} {P : Program} {c : Code} {Q : Exit → Act → World → Prop} {a : Act} {w : World} (h : c.wpIn F n P (fun e a w => e = .normal ∧ Q e a w) a w) : c.wpIn F n P Q a w :=
  wpIn_mono h (fun _ _ _ hh => hh.2)

/-- What Scan tells. -/
def ScanAt (b : List Int) (w : World) (e : Ending) (w' : World) : Prop :=
  ∃ (l : Option Addr) (n cl en : Nat), e = .returned (.tuple #[.slice l n cl, .int .i64 en, .bool (decide (en = b.length))]) ∧ Kp (fun _ => False) w w' ∧
    (en = b.length → n = 1 → ∃ (x : Fi) (g : Nat), l = some ⟨g, 0, none⟩ ∧ w'.cell? ⟨g, 0, none⟩ = some (.int .i64 x.k) ∧ w'.cell? ⟨g, 1, none⟩ = some (.slice x.ad x.d.length x.cap) ∧ Row w' x.ad (bytes x.d) ∧ b = frm x.k x.d ∧ Byte x.d ∧ x.k < 256 ∧ x.d.length ≤ 65536)

theorem scan_fin {w W V : World} {b : List Int} {xs : List Fi} {oa : Option Addr} {co D : Nat} {vs : List Value} (h2 : W.heap[w.heap.size]? = some (.cells #[.slice oa xs.length co] 79 (0, 0)))
    (h3 : W.heap[w.heap.size + 1]? = some (.cells #[.int .i64 (lastAt xs)] 3 (0, 0))) (hO : Owns W (w.heap.size + 3) 83 2 oa xs.length co vs)
    (h1 : ∀ x, xs = [x] → vs = [.int .i64 x.k, .slice x.ad x.d.length x.cap] ∧ Row W x.ad (bytes x.d) ∧ ∀ g, blockOf x.ad = some g → w.heap.size + 3 ≤ g) (hBW : Below w.heap.size w W) (hall : Fis.all b xs)
    (hD : w.heap.size + 3 ≤ D) (hdd : W.heap[D]? = some (.deferred (some []))) (hKV : Kp (fun _ => False) W V) :
    ((V.setCell ⟨w.heap.size, 0, none⟩ (.slice oa xs.length co)).setCell ⟨w.heap.size + 1, 0, none⟩ (.int .i64 (lastAt xs))).heap[D]? = some (.deferred (some [])) ∧
    (((V.setCell ⟨w.heap.size, 0, none⟩ (.slice oa xs.length co)).setCell ⟨w.heap.size + 1, 0, none⟩ (.int .i64 (lastAt xs))).putObj D (.deferred none)).cell? ⟨w.heap.size, 0, none⟩ = some (.slice oa xs.length co) ∧
    (((V.setCell ⟨w.heap.size, 0, none⟩ (.slice oa xs.length co)).setCell ⟨w.heap.size + 1, 0, none⟩ (.int .i64 (lastAt xs))).putObj D (.deferred none)).cell? ⟨w.heap.size + 1, 0, none⟩ = some (.int .i64 (lastAt xs)) ∧
    ScanAt b w (.returned (.tuple #[.slice oa xs.length co, .int .i64 (lastAt xs), .bool (((lastAt xs : Nat) : Int) == (b.length : Int))])) (((V.setCell ⟨w.heap.size, 0, none⟩ (.slice oa xs.length co)).setCell ⟨w.heap.size + 1, 0, none⟩ (.int .i64 (lastAt xs))).putObj D (.deferred none)) := by
  have k5 : Kp (fun j => j = w.heap.size ∨ j = w.heap.size + 1) W ((V.setCell ⟨w.heap.size, 0, none⟩ (.slice oa xs.length co)).setCell ⟨w.heap.size + 1, 0, none⟩ (.int .i64 (lastAt xs))) :=
    ((hKV.mono (S' := fun j => j = w.heap.size ∨ j = w.heap.size + 1) (fun _ _ h => h.elim)).setCell (p := ⟨w.heap.size, 0, none⟩) (.inl (.inl rfl)) _).setCell (p := ⟨w.heap.size + 1, 0, none⟩) (.inl (.inr rfl)) _
  have g2 := hKV.heap h2 (fun h => h)
  have g3 := hKV.heap h3 (fun h => h)
  have r2 := heap_set_other (p := ⟨w.heap.size + 1, 0, none⟩) (u := .int .i64 (lastAt xs)) (heap_set g2 0 (.slice oa xs.length co)) (by simp)
  have r3 := heap_set (heap_set_other (p := ⟨w.heap.size, 0, none⟩) (u := .slice oa xs.length co) g3 (by simp)) 0 (.int .i64 (lastAt xs))
  generalize ((V.setCell ⟨w.heap.size, 0, none⟩ (.slice oa xs.length co)).setCell ⟨w.heap.size + 1, 0, none⟩ (.int .i64 (lastAt xs))) = U at k5 r2 r3 ⊢
  have hD5 : U.heap[D]? = some (.deferred (some [])) := k5.heap hdd (by omega)
  have k6 : Kp (fun j => j = w.heap.size ∨ j = w.heap.size + 1 ∨ j = D) W (U.putObj D (.deferred none)) :=
    ⟨k5.os, k5.tape, k5.output, by simp only [World.putObj, Array.size_setIfInBounds]; exact k5.size, fun j hj hn => (World.putObj_heap_other (fun e => hn (.inr (.inr e)))).trans (k5.block j hj (fun h => hn (h.elim .inl (fun h => .inr (.inl h)))))⟩
  have hgD : ∀ g (o : Obj), W.heap[g]? = some o → o.isCells = true → g ≠ D := by
    rintro g o ho hc rfl
    rw [hdd] at ho
    cases ho
    cases hc
  refine ⟨hD5, cell_of ((World.putObj_heap_other (by omega)).trans r2) 0 rfl, cell_of ((World.putObj_heap_other (by omega)).trans r3) 0 rfl, oa, xs.length, co, lastAt xs, ?_, ?_, ?_⟩
  · have e : (((lastAt xs : Nat) : Int) == (b.length : Int)) = decide (lastAt xs = b.length) := by
      rw [Bool.eq_iff_iff]
      simp
      omega
    rw [e]
  · have k7 : Kp (fun j => w.heap.size ≤ j) w (U.putObj D (.deferred none)) := (Kp.of_below hBW).andThen k6 (fun i _ h => by omega)
    exact k7.fin
  · intro he hn
    obtain ⟨x, rfl⟩ : ∃ x, xs = [x] := List.length_eq_one_iff.1 hn
    obtain ⟨hv, hrow, hge⟩ := h1 x rfl
    obtain ⟨⟨r, hbr⟩, hall2, hall3⟩ := hall
    have hat : x.at_ = (Fis.by [x]).length := hall3 [] x rfl
    have hla : lastAt [x] = x.at_ := rfl
    have hr0 : r = [] := by
      have := congrArg List.length hbr
      rw [List.length_append] at this
      exact List.eq_nil_of_length_eq_zero (by omega)
    subst hr0
    have hbf : b = frm x.k x.d := by
      rw [hbr]
      simp [Fis.by, Fi.by]
    subst hv
    obtain ⟨g, hoa, hc0⟩ := hO.cell (j := 0) (u := .int .i64 x.k) rfl
    obtain ⟨g', hoa', hc1⟩ := hO.cell (j := 1) (u := .slice x.ad x.d.length x.cap) rfl
    rw [hoa] at hoa'
    cases hoa'
    have hgB := (hO.from (b := g) (by rw [hoa]; rfl)).1
    obtain ⟨cur, hcur⟩ := hO.cells_at (g := g) (by rw [hoa]; rfl)
    have hgl := lt_of_block hcur
    have hgd := hgD g _ hcur rfl
    have hn6 : ¬ (g = w.heap.size ∨ g = w.heap.size + 1 ∨ g = D) := by omega
    obtain ⟨f1, f2, f3⟩ := hall2 x (by simp)
    refine ⟨x, g, hoa, (k6.cell (p := ⟨g, 0, none⟩) hgl hn6).trans hc0, (k6.cell (p := ⟨g, 1, none⟩) hgl hn6).trans hc1, ?_, hbf, f1, f2, f3⟩
    intro i v hv
    obtain ⟨q, off, e, hc⟩ := hrow i v hv
    obtain ⟨o, ho, hcc⟩ := cells_of_cell hc
    have h5 := hge q (by rw [e]; rfl)
    have h6 := hgD q o ho hcc
    refine ⟨q, off, e, (k6.cell (p := ⟨q, off + i, none⟩) (World.block_lt_of_cell? (a := ⟨q, off + i, none⟩) W hc) (by dsimp only; omega)).trans hc⟩

set_option maxRecDepth 100000 in
set_option maxHeartbeats 4000000 in
theorem scan_any {w : World} {a : Option Addr} {b : List Int} (hr : Row w a (bytes b)) (hB : Byte b) (hlen : b.length ≤ 16777216) (c : Nat) (hcap : b.length ≤ c) (h0 : 0 < w.heap.size) :
    Calls Tryz.prog 35 #[.slice a b.length c] w (ScanAt b w) := by
  obtain ⟨g, off, hgl, ha⟩ : ∃ g off, g < w.heap.size ∧ (b ≠ [] → a = some ⟨g, off, none⟩) := by
    cases b with
    | nil => exact ⟨0, 0, h0, fun h => absurd rfl h⟩
    | cons x t =>
      obtain ⟨g, off, e, hx⟩ := hr 0 (.int .u8 x) rfl
      exact ⟨g, off, World.block_lt_of_cell? (a := ⟨g, off + 0, none⟩) w hx, fun _ => e⟩
  have HR := Lib.hid hr
  have HA := Lib.hid ha
  have HL := Lib.hid hlen
  have HB := Lib.hid hB
  have HC := Lib.hid hcap
  clear hr ha
  refine (callsIn_wide (n := 4)).1 ?_
  refine callsIn_of_wp_marks Tryz.func35 rfl trivial ?_ rfl
  simp only [Tryz.ntmps35, List.size_toArray, List.length_cons, List.length_nil, Nat.reduceAdd, Nat.reduceSub, Array.replicate_succ, Array.replicate_zero, List.push_toArray, List.append_toArray, List.nil_append, List.cons_append]
  gi_wp2_with (first | (refine ⟨trivial, ?_⟩; gi_at_call 50; refine (frames_in _ _ trivial rfl _ _ _ _).mono ?_; rintro e w1 ⟨rfl, rfl⟩))
  obtain ⟨W3, hW3⟩ : ∃ W3, W3 = ((w.alloc (.cells #[.slice none 0 0] 79)).alloc (.cells #[.int .i64 0] 3)).alloc (.cells #[.slice a b.length c] 22) := ⟨_, rfl⟩
  rw [← hW3]
  have hs3 : W3.heap.size = w.heap.size + 3 := by rw [hW3]; simp
  have k3 : Kp (fun _ => False) w W3 := by rw [hW3]; exact (((Kp.refl _ w).alloc _).alloc _).alloc _
  have hb2 : W3.heap[w.heap.size]? = some (.cells #[.slice none 0 0] 79 (0, 0)) := by rw [hW3]; exact heap_old _ (heap_old _ (heap_new w _))
  have hb3 : W3.heap[w.heap.size + 1]? = some (.cells #[.int .i64 0] 3 (0, 0)) := by
    rw [hW3]
    have := heap_new (w.alloc (.cells #[.slice none 0 0] 79)) (.cells #[.int .i64 0] 3)
    rw [World.size_alloc] at this
    exact heap_old _ this
  have hbs : W3.heap[w.heap.size + 2]? = some (.cells #[.slice a b.length c] 22 (0, 0)) := by
    rw [hW3]
    have := heap_new ((w.alloc (.cells #[.slice none 0 0] 79)).alloc (.cells #[.int .i64 0] 3)) (.cells #[.slice a b.length c] 22)
    rw [World.size_alloc, World.size_alloc] at this
    exact this
  have hz : ScI (w.heap.size + 3) w w.heap.size (w.heap.size + 1) [] W3 := ⟨none, 0, [], hb2, hb3, Owns.nil _ _ _ _, (fun x h => by cases h), k3.below (Nat.le_refl _) (fun _ _ h => h), by omega, fun _ => rfl⟩
  refine rangeFunc_told (n := 4) (gf := 62) (lb := #[.pointer (some ⟨w.heap.size + 2, 0, none⟩)]) (p := ⟨w.heap.size + 2, 0, none⟩) rfl (by omega) rfl trivial (enters_of Tryz.func62 (by kernel_rfl) rfl) (by show w.heap.size + 2 < W3.heap.size; omega)
    (frames_told (4 - 1) (by omega) W3 (w.heap.size + 2) g b hB (by omega) (by omega) off a c hbs (HR.out.no k3) HA.out hcap)
    (fun h k => ⟨KB.trans h.1 k.1, Nat.le_trans h.2 k.2⟩) (fun W l o o' hl hlo hc1 hc2 => ⟨KB.put (by rw [hs3]; omega) (by rw [hs3]; omega) W l o o' hl hlo hc1 hc2, by simp [World.putObj]⟩)
    (fun _ => rfl) (ScI (w.heap.size + 3) w w.heap.size (w.heap.size + 1)) (by rw [hs3]; exact ScI.own _ _ _ _ (by omega) (by omega) (by omega))
    (fun s A v h => h.box v (by omega) (by omega) (by omega) (by omega)) hz (ScT (w.heap.size + 3) a b.length c w.heap.size)
    (fun x a1 W l o o' _ hl hc h => h.obj o' hl hc) ?assign ?body ?done
  case assign =>
    intro l pre x W K hI hRx hK
    obtain ⟨at_, k, d, ad, cap⟩ := x
    simp only [Fi.vals, Fi.frame]
    generalize hdl : d.length = dl
    have HDL := Lib.hid hdl
    have HI := Lib.hid hI
    have HRX := Lib.hid hRx
    have HK3 := Lib.hid k3
    clear hdl hI hRx hz hb2 hb3 hbs hW3 k3
    gi_wp2
    have kA := (Kp.refl (fun _ => False) W).alloc (.cells #[.int .i64 k, .slice ad dl cap] 83)
    have hBW : w.heap.size + 3 ≤ W.heap.size := by
      obtain ⟨_, _, _, _, _, _, _, _, hb, _⟩ := HI.out
      exact hb
    refine hK _ _ (kA.keeps fun _ _ h => h.elim) ⟨KB.kp kA (by omega) (by omega) (fun h => h) (fun h => h), kA.size⟩ (HI.out.kp kA (fun h => h) (fun h => h) (fun _ h => h.elim) (fun _ _ h => h)) ⟨W.heap.size, hBW, ?_, ?_, ?_⟩
    · simp only [scA, Fi.frame, HDL.out]
    · rw [HDL.out]
      exact heap_new W _
    · exact (HRX.out.kp kA (fun _ _ _ h => h)).mono (by omega)
  case body =>
    intro l pre x a1 W hI hT hN
    obtain ⟨b6, hb6, rfl, h6, hh⟩ := hT
    obtain ⟨at_, k, d, ad, cap⟩ := x
    obtain ⟨oa, co, vs, e2, e3, ho, h1, hbw, hbz, hzz⟩ := hI
    simp only [scA, Fi.frame]
    have c2 := cell_of e2 0 (v := .slice oa pre.length co) rfl
    have c60 := cell_of h6 0 (v := .int .i64 k) rfl
    have c61 := cell_of h6 1 (v := .slice ad d.length cap) rfl
    dsimp only at h6 c61
    generalize hdl : d.length = dl at *
    have HDL := Lib.hid hdl
    have HO := Lib.hid ho
    have H1 := Lib.hid h1
    have HZ := Lib.hid hzz
    have HH := Lib.hid hh
    have HBW := Lib.hid hbw
    have HK3 := Lib.hid k3
    have hpl : pre.length < 16777216 := Nat.lt_of_lt_of_le hN HL.out
    generalize hpr : pre.length = pl at *
    have HPR := Lib.hid hpr
    clear hdl hpr ho h1 hzz hh hz hb2 hb3 hbs hW3 k3 hbw
    gi_wp2_with (gi_at_builtin; refine Stop.mk ?_)
    unfold Stop
    have kA := (Kp.refl (fun _ => False) W).alloc (.cells #[.int .i64 k, .slice ad dl cap] 83)
    have hrow : Row (W.alloc (.cells #[.int .i64 k, .slice ad dl cap] 83)) (some ⟨W.heap.size, 0, none⟩) [.int .i64 k, .slice ad dl cap] := fun j u hu => ⟨_, _, rfl, cell_of (heap_new W _) (0 + j) (by rw [Nat.zero_add, List.getElem?_toArray]; exact hu)⟩
    refine wpListIn_app rfl _ _ 79 rfl (w.heap.size + 3) 83 info83 Tryz.underlying79 rfl (by decide) rfl (HO.out.kp kA (fun _ _ h => h)) rfl (news := [.int .i64 k, .slice ad dl cap]) rfl
      (fun j u hu => by obtain ⟨_, e1, h2⟩ := hrow.news j u hu; cases e1; exact h2) (by simp [Value.oneCell']) (by unfold maxLen; omega) (by omega) (by have := kA.size; omega) ?_
    intro a' cap' w4 ho4 hk4
    have hne2 : ∀ q, blockOf oa = some q → w.heap.size + 3 ≤ q := fun q hq => (HO.out.from hq).1
    have k4 : Kp (fun j => some j = blockOf oa) W w4 := (kA.mono (S' := fun j => some j = blockOf oa) (fun _ _ h => h.elim)).trans hk4
    have n2 : ¬ (some w.heap.size = blockOf oa) := fun e => by have := hne2 _ e.symm; omega
    have n3 : ¬ (some (w.heap.size + 1) = blockOf oa) := fun e => by have := hne2 _ e.symm; omega
    have g2 := k4.heap e2 n2
    have g3 := k4.heap e3 n3
    have p2 := cell_of g2 0 (v := .slice oa pl co) rfl
    have p3 := cell_of g3 0 (v := .int .i64 (lastAt pre)) rfl
    have q2 := free_of g2 0
    have q3 := free_of g3 0
    have HO4 := Lib.hid ho4
    have HK4 := Lib.hid k4
    have HE2 := Lib.hid hne2
    clear ho4 k4 hk4 hne2 hrow c60 c61 h6 e2 e3 c2 kA
    gi_wp2
    have k5 : Kp (fun j => some j = blockOf oa ∨ j = w.heap.size ∨ j = w.heap.size + 1) W ((w4.setCell ⟨w.heap.size, 0, none⟩ (.slice a' (pl + 1) cap')).setCell ⟨w.heap.size + 1, 0, none⟩ (.int .i64 at_)) :=
      ((HK4.out.mono (S' := fun j => some j = blockOf oa ∨ j = w.heap.size ∨ j = w.heap.size + 1) (fun _ _ h => .inl h)).setCell (p := ⟨w.heap.size, 0, none⟩) (.inl (.inr (.inl rfl))) _).setCell (p := ⟨w.heap.size + 1, 0, none⟩) (.inl (.inr (.inr rfl))) _
    have k6 : Kp (fun j => j = w.heap.size ∨ j = w.heap.size + 1) w4 ((w4.setCell ⟨w.heap.size, 0, none⟩ (.slice a' (pl + 1) cap')).setCell ⟨w.heap.size + 1, 0, none⟩ (.int .i64 at_)) :=
      ((Kp.refl (fun j => j = w.heap.size ∨ j = w.heap.size + 1) w4).setCell (p := ⟨w.heap.size, 0, none⟩) (.inl (.inl rfl)) _).setCell (p := ⟨w.heap.size + 1, 0, none⟩) (.inl (.inr rfl)) _
    have r2 := heap_set_other (p := ⟨w.heap.size + 1, 0, none⟩) (u := .int .i64 at_) (heap_set g2 0 (.slice a' (pl + 1) cap')) (by simp)
    have r3 := heap_set (heap_set_other (p := ⟨w.heap.size, 0, none⟩) (u := .slice a' (pl + 1) cap') g3 (by simp)) 0 (.int .i64 at_)
    generalize ((w4.setCell ⟨w.heap.size, 0, none⟩ (.slice a' (pl + 1) cap')).setCell ⟨w.heap.size + 1, 0, none⟩ (.int .i64 at_)) = W5 at k5 k6 r2 r3 ⊢
    have nS : ∀ j, (w.heap.size + 3 ≤ j → some j ≠ blockOf oa) → (j ≠ w.heap.size) → (j ≠ w.heap.size + 1) → ¬ (some j = blockOf oa ∨ j = w.heap.size ∨ j = w.heap.size + 1) := by
      rintro j h1 h2 h3 (h | h | h)
      · exact h1 (HE2.out j h.symm) h
      · exact h2 h
      · exact h3 h
    refine ⟨k5.keeps ?_, ⟨KB.kp k5 (by omega) (by omega) (nS _ (by omega) (by omega) (by omega)) (nS _ (by omega) (by omega) (by omega)), k5.size⟩, ?_⟩
    · rintro j o (h | h | h) hB hj
      · obtain ⟨cur, hc⟩ := HO.out.cells_at h.symm
        rw [hc] at hj
        cases hj
        rfl
      · omega
      · omega
    · refine ⟨a', cap', vs ++ [.int .i64 k, .slice ad dl cap], ?_, ?_, ?_, ?_, HBW.out.trans ⟨k5.os, k5.tape, k5.output, k5.size, fun j hj => k5.block j (by omega) (nS _ (by omega) (by omega) (by omega))⟩, Nat.le_trans hbz k5.size, fun h => by simp at h⟩
      · rw [r2, List.length_append, HPR.out]
        rfl
      · rw [r3, lastAt_snoc]
        rfl
      · rw [List.length_append, HPR.out]
        exact HO4.out.kp k6 (fun q hq => by have := (HO4.out.from hq).1; omega)
      · intro y hy
        have hp : pre = [] := by
          have := congrArg List.length hy
          rw [List.length_append] at this
          simp at this
          exact this
        have hoa := HZ.out hp
        have hvs : vs = [] := by
          have h1 := HO.out.1
          rw [← HPR.out, hp] at h1
          exact List.eq_nil_of_length_eq_zero (by simpa using h1)
        subst hp
        simp only [List.nil_append, List.cons.injEq, and_true] at hy
        subst hy
        refine ⟨by rw [hvs, HDL.out]; rfl, HH.out.1.kp k5 (fun q hq => nS _ (fun _ => by rw [hoa]; simp [blockOf]) (by have := (HH.out.2 q hq).1; omega) (by have := (HH.out.2 q hq).1; omega)), fun q hq => (HH.out.2 q hq).1⟩
  case done =>
    intro D xs W hD hall hI hdd
    obtain ⟨oa, co, vs, e2, e3, ho, h1, hbw, hbz, hzz⟩ := hI
    have hne : w.heap.size ≠ w.heap.size + 1 := by omega
    have c2 : W.drew.cell? ⟨w.heap.size, 0, none⟩ = some (.slice oa xs.length co) := cell_of e2 0 (v := .slice oa xs.length co) rfl
    have c3 : W.drew.cell? ⟨w.heap.size + 1, 0, none⟩ = some (.int .i64 (lastAt xs)) := cell_of e3 0 (v := .int .i64 (lastAt xs)) rfl
    have f2 : W.drew.frozen? ⟨w.heap.size, 0, none⟩ = false := free_of e2 0
    have f3 : W.drew.frozen? ⟨w.heap.size + 1, 0, none⟩ = false := free_of e3 0
    have HE2 := Lib.hid e2
    have HE3 := Lib.hid e3
    have HO := Lib.hid ho
    have H1 := Lib.hid h1
    have HBW := Lib.hid hbw
    have HALL := Lib.hid hall
    have HDD := Lib.hid hdd
    generalize hxl : xs.length = xl at c2
    have HXL := Lib.hid hxl
    clear e2 e3 ho h1 hbw hall hdd hz hb2 hb3 hbs hW3 k3 hxl hzz
    gi_wp2
    refine wpIn_only ?_
    refine wpIn_region_any (by kernel_rfl) ?_
    show wpAnyIn _ _ _ _ _ _ _ _ _ W.drew
    have hKV : Kp (fun _ => False) W W.drew := (Kp.refl _ _).drew
    have HKV := Lib.hid hKV
    clear hKV
    generalize W.drew = V at c2 c3 f2 f3 HKV ⊢
    have c3' : (V.setCell ⟨w.heap.size, 0, none⟩ (.slice oa xl co)).cell? ⟨w.heap.size + 1, 0, none⟩ = some (.int .i64 (lastAt xs)) := (World.cell?_setCell_far V ⟨w.heap.size, 0, none⟩ ⟨w.heap.size + 1, 0, none⟩ _ hne).trans c3
    have f3' : (V.setCell ⟨w.heap.size, 0, none⟩ (.slice oa xl co)).frozen? ⟨w.heap.size + 1, 0, none⟩ = false := by simp [f3]
    refine wpAnyIn_take (i := 3) (v := ?_) rfl rfl (by kernel_rfl) (by kernel_rfl) (by kernel_rfl) (fun _ _ _ h => by cases h.1) ⟨Or.inl ⟨by rfl, ?_⟩, fun _ => rfl⟩ ?_
    rotate_left
    · intro w
      go_simp
      try with_reducible rfl
    try simp only [Act.put, List.getElem_toArray, List.getElem_cons_zero, List.getElem_cons_succ, List.setIfInBounds_toArray, List.set_cons_zero, List.set_cons_succ]
    refine wpAnyIn_take (i := 4) (v := ?_) rfl rfl (by kernel_rfl) (by kernel_rfl) (by kernel_rfl) (fun _ _ _ h => by cases h.1) ⟨Or.inl ⟨by rfl, ?_⟩, fun _ => rfl⟩ ?_
    rotate_left
    · intro w
      go_simp
      try with_reducible rfl
    try simp only [Act.put, List.getElem_toArray, List.getElem_cons_zero, List.getElem_cons_succ, List.setIfInBounds_toArray, List.set_cons_zero, List.set_cons_succ]
    refine wpAnyIn_ready (rs := [0, 1, 2]) (by kernel_rfl) (by simp) ?_
    refine AllReadyIn.cons rfl (fun K hK => ?_) (AllReadyIn.cons rfl (fun K hK => ?_) (AllReadyIn.cons rfl (fun K hK => ?_) (AllReadyIn.nil)))
    focus
      go_simp
      refine hK _ _ ?_
      clear hK K
      try simp only [Act.put, List.getElem_toArray, List.getElem_cons_zero, List.getElem_cons_succ, List.setIfInBounds_toArray, List.set_cons_zero, List.set_cons_succ]
      refine wpAnyIn_ready (rs := [1, 2]) (by kernel_rfl) (by simp) ?_
      refine AllReadyIn.cons rfl (fun K hK => ?_) (AllReadyIn.cons rfl (fun K hK => ?_) (AllReadyIn.nil))
      focus
        go_simp
        refine hK _ _ ?_
        clear hK K
        try simp only [Act.put, List.getElem_toArray, List.getElem_cons_zero, List.getElem_cons_succ, List.setIfInBounds_toArray, List.set_cons_zero, List.set_cons_succ]
        refine wpAnyIn_ready (rs := [2]) (by kernel_rfl) (by simp) ?_
        refine AllReadyIn.cons rfl (fun K hK => ?_) (AllReadyIn.nil)
        focus
          go_simp
          refine hK _ _ ?_
          clear hK K
          try simp only [Act.put, List.getElem_toArray, List.getElem_cons_zero, List.getElem_cons_succ, List.setIfInBounds_toArray, List.set_cons_zero, List.set_cons_succ]
          refine wpAnyIn_take (i := 5) (v := ?_) rfl rfl (by kernel_rfl) (by kernel_rfl) (by kernel_rfl) (fun _ _ _ h => by cases h.1) ⟨Or.inl ⟨by rfl, ?_⟩, fun _ => rfl⟩ ?_
          rotate_left
          · intro w
            go_simp
            try with_reducible rfl
          try simp only [Act.put, List.getElem_toArray, List.getElem_cons_zero, List.getElem_cons_succ, List.setIfInBounds_toArray, List.set_cons_zero, List.set_cons_succ]
          refine wpAnyIn_ready (rs := [6]) (by kernel_rfl) (by simp) ?_
          refine AllReadyIn.cons rfl (fun K hK => ?_) (AllReadyIn.nil)
          focus
            go_simp
            refine hK _ _ ?_
            clear hK K
            try simp only [Act.put, List.getElem_toArray, List.getElem_cons_zero, List.getElem_cons_succ, List.setIfInBounds_toArray, List.set_cons_zero, List.set_cons_succ]
            refine wpAnyIn_ready (rs := [7]) (by kernel_rfl) (by simp) ?_
            refine AllReadyIn.cons rfl (fun K hK => ?_) (AllReadyIn.nil)
            focus
              go_simp
              refine hK _ _ ?_
              clear hK K
              try simp only [Act.put, List.getElem_toArray, List.getElem_cons_zero, List.getElem_cons_succ, List.setIfInBounds_toArray, List.set_cons_zero, List.set_cons_succ]
              refine wpAnyIn_take (i := 8) (v := ?_) rfl rfl (by kernel_rfl) (by kernel_rfl) (by kernel_rfl) (fun _ _ _ h => by cases h.1) ⟨Or.inl ⟨by rfl, ?_⟩, fun _ => rfl⟩ ?_
              rotate_left
              · intro w
                go_simp
                try with_reducible rfl
              try simp only [Act.put, List.getElem_toArray, List.getElem_cons_zero, List.getElem_cons_succ, List.setIfInBounds_toArray, List.set_cons_zero, List.set_cons_succ]
              refine wpAnyIn_done (by kernel_rfl) ⟨rfl, ?_⟩ _
      rotate_left
      focus
        go_simp
        refine hK _ _ ?_
        clear hK K
        try simp only [Act.put, List.getElem_toArray, List.getElem_cons_zero, List.getElem_cons_succ, List.setIfInBounds_toArray, List.set_cons_zero, List.set_cons_succ]
        refine wpAnyIn_take (i := 5) (v := ?_) rfl rfl (by kernel_rfl) (by kernel_rfl) (by kernel_rfl) (fun _ _ _ h => by cases h.1) ⟨Or.inl ⟨by rfl, ?_⟩, fun _ => rfl⟩ ?_
        rotate_left
        · intro w
          go_simp
          try with_reducible rfl
        try simp only [Act.put, List.getElem_toArray, List.getElem_cons_zero, List.getElem_cons_succ, List.setIfInBounds_toArray, List.set_cons_zero, List.set_cons_succ]
        refine wpAnyIn_ready (rs := [1, 6]) (by kernel_rfl) (by simp) ?_
        refine AllReadyIn.cons rfl (fun K hK => ?_) (AllReadyIn.cons rfl (fun K hK => ?_) (AllReadyIn.nil))
        focus
          go_simp
          refine hK _ _ ?_
          clear hK K
          try simp only [Act.put, List.getElem_toArray, List.getElem_cons_zero, List.getElem_cons_succ, List.setIfInBounds_toArray, List.set_cons_zero, List.set_cons_succ]
          refine wpAnyIn_ready (rs := [6]) (by kernel_rfl) (by simp) ?_
          refine AllReadyIn.cons rfl (fun K hK => ?_) (AllReadyIn.nil)
          focus
            go_simp
            refine hK _ _ ?_
            clear hK K
            try simp only [Act.put, List.getElem_toArray, List.getElem_cons_zero, List.getElem_cons_succ, List.setIfInBounds_toArray, List.set_cons_zero, List.set_cons_succ]
            refine wpAnyIn_ready (rs := [7]) (by kernel_rfl) (by simp) ?_
            refine AllReadyIn.cons rfl (fun K hK => ?_) (AllReadyIn.nil)
            focus
              go_simp
              refine hK _ _ ?_
              clear hK K
              try simp only [Act.put, List.getElem_toArray, List.getElem_cons_zero, List.getElem_cons_succ, List.setIfInBounds_toArray, List.set_cons_zero, List.set_cons_succ]
              refine wpAnyIn_take (i := 8) (v := ?_) rfl rfl (by kernel_rfl) (by kernel_rfl) (by kernel_rfl) (fun _ _ _ h => by cases h.1) ⟨Or.inl ⟨by rfl, ?_⟩, fun _ => rfl⟩ ?_
              rotate_left
              · intro w
                go_simp
                try with_reducible rfl
              try simp only [Act.put, List.getElem_toArray, List.getElem_cons_zero, List.getElem_cons_succ, List.setIfInBounds_toArray, List.set_cons_zero, List.set_cons_succ]
              refine wpAnyIn_done (by kernel_rfl) ⟨rfl, ?_⟩ _
        rotate_left
        focus
          go_simp
          refine hK _ _ ?_
          clear hK K
          try simp only [Act.put, List.getElem_toArray, List.getElem_cons_zero, List.getElem_cons_succ, List.setIfInBounds_toArray, List.set_cons_zero, List.set_cons_succ]
          refine wpAnyIn_ready (rs := [1]) (by kernel_rfl) (by simp) ?_
          refine AllReadyIn.cons rfl (fun K hK => ?_) (AllReadyIn.nil)
          focus
            go_simp
            refine hK _ _ ?_
            clear hK K
            try simp only [Act.put, List.getElem_toArray, List.getElem_cons_zero, List.getElem_cons_succ, List.setIfInBounds_toArray, List.set_cons_zero, List.set_cons_succ]
            refine wpAnyIn_ready (rs := [7]) (by kernel_rfl) (by simp) ?_
            refine AllReadyIn.cons rfl (fun K hK => ?_) (AllReadyIn.nil)
            focus
              go_simp
              refine hK _ _ ?_
              clear hK K
              try simp only [Act.put, List.getElem_toArray, List.getElem_cons_zero, List.getElem_cons_succ, List.setIfInBounds_toArray, List.set_cons_zero, List.set_cons_succ]
              refine wpAnyIn_take (i := 8) (v := ?_) rfl rfl (by kernel_rfl) (by kernel_rfl) (by kernel_rfl) (fun _ _ _ h => by cases h.1) ⟨Or.inl ⟨by rfl, ?_⟩, fun _ => rfl⟩ ?_
              rotate_left
              · intro w
                go_simp
                try with_reducible rfl
              try simp only [Act.put, List.getElem_toArray, List.getElem_cons_zero, List.getElem_cons_succ, List.setIfInBounds_toArray, List.set_cons_zero, List.set_cons_succ]
              refine wpAnyIn_done (by kernel_rfl) ⟨rfl, ?_⟩ _
    rotate_left
    rotate_left
    rotate_left
    focus
      go_simp
      refine hK _ _ ?_
      clear hK K
      try simp only [Act.put, List.getElem_toArray, List.getElem_cons_zero, List.getElem_cons_succ, List.setIfInBounds_toArray, List.set_cons_zero, List.set_cons_succ]
      refine wpAnyIn_ready (rs := [0, 2]) (by kernel_rfl) (by simp) ?_
      refine AllReadyIn.cons rfl (fun K hK => ?_) (AllReadyIn.cons rfl (fun K hK => ?_) (AllReadyIn.nil))
      focus
        go_simp
        refine hK _ _ ?_
        clear hK K
        try simp only [Act.put, List.getElem_toArray, List.getElem_cons_zero, List.getElem_cons_succ, List.setIfInBounds_toArray, List.set_cons_zero, List.set_cons_succ]
        refine wpAnyIn_ready (rs := [2]) (by kernel_rfl) (by simp) ?_
        refine AllReadyIn.cons rfl (fun K hK => ?_) (AllReadyIn.nil)
        focus
          go_simp
          refine hK _ _ ?_
          clear hK K
          try simp only [Act.put, List.getElem_toArray, List.getElem_cons_zero, List.getElem_cons_succ, List.setIfInBounds_toArray, List.set_cons_zero, List.set_cons_succ]
          refine wpAnyIn_take (i := 5) (v := ?_) rfl rfl (by kernel_rfl) (by kernel_rfl) (by kernel_rfl) (fun _ _ _ h => by cases h.1) ⟨Or.inl ⟨by rfl, ?_⟩, fun _ => rfl⟩ ?_
          rotate_left
          · intro w
            go_simp
            try with_reducible rfl
          try simp only [Act.put, List.getElem_toArray, List.getElem_cons_zero, List.getElem_cons_succ, List.setIfInBounds_toArray, List.set_cons_zero, List.set_cons_succ]
          refine wpAnyIn_ready (rs := [6]) (by kernel_rfl) (by simp) ?_
          refine AllReadyIn.cons rfl (fun K hK => ?_) (AllReadyIn.nil)
          focus
            go_simp
            refine hK _ _ ?_
            clear hK K
            try simp only [Act.put, List.getElem_toArray, List.getElem_cons_zero, List.getElem_cons_succ, List.setIfInBounds_toArray, List.set_cons_zero, List.set_cons_succ]
            refine wpAnyIn_ready (rs := [7]) (by kernel_rfl) (by simp) ?_
            refine AllReadyIn.cons rfl (fun K hK => ?_) (AllReadyIn.nil)
            focus
              go_simp
              refine hK _ _ ?_
              clear hK K
              try simp only [Act.put, List.getElem_toArray, List.getElem_cons_zero, List.getElem_cons_succ, List.setIfInBounds_toArray, List.set_cons_zero, List.set_cons_succ]
              refine wpAnyIn_take (i := 8) (v := ?_) rfl rfl (by kernel_rfl) (by kernel_rfl) (by kernel_rfl) (fun _ _ _ h => by cases h.1) ⟨Or.inl ⟨by rfl, ?_⟩, fun _ => rfl⟩ ?_
              rotate_left
              · intro w
                go_simp
                try with_reducible rfl
              try simp only [Act.put, List.getElem_toArray, List.getElem_cons_zero, List.getElem_cons_succ, List.setIfInBounds_toArray, List.set_cons_zero, List.set_cons_succ]
              refine wpAnyIn_done (by kernel_rfl) ⟨rfl, ?_⟩ _
      rotate_left
      focus
        go_simp
        refine hK _ _ ?_
        clear hK K
        try simp only [Act.put, List.getElem_toArray, List.getElem_cons_zero, List.getElem_cons_succ, List.setIfInBounds_toArray, List.set_cons_zero, List.set_cons_succ]
        refine wpAnyIn_take (i := 5) (v := ?_) rfl rfl (by kernel_rfl) (by kernel_rfl) (by kernel_rfl) (fun _ _ _ h => by cases h.1) ⟨Or.inl ⟨by rfl, ?_⟩, fun _ => rfl⟩ ?_
        rotate_left
        · intro w
          go_simp
          try with_reducible rfl
        try simp only [Act.put, List.getElem_toArray, List.getElem_cons_zero, List.getElem_cons_succ, List.setIfInBounds_toArray, List.set_cons_zero, List.set_cons_succ]
        refine wpAnyIn_ready (rs := [0]) (by kernel_rfl) (by simp) ?_
        refine AllReadyIn.cons rfl (fun K hK => ?_) (AllReadyIn.nil)
        focus
          go_simp
          refine hK _ _ ?_
          clear hK K
          try simp only [Act.put, List.getElem_toArray, List.getElem_cons_zero, List.getElem_cons_succ, List.setIfInBounds_toArray, List.set_cons_zero, List.set_cons_succ]
          refine wpAnyIn_ready (rs := [6]) (by kernel_rfl) (by simp) ?_
          refine AllReadyIn.cons rfl (fun K hK => ?_) (AllReadyIn.nil)
          focus
            go_simp
            refine hK _ _ ?_
            clear hK K
            try simp only [Act.put, List.getElem_toArray, List.getElem_cons_zero, List.getElem_cons_succ, List.setIfInBounds_toArray, List.set_cons_zero, List.set_cons_succ]
            refine wpAnyIn_ready (rs := [7]) (by kernel_rfl) (by simp) ?_
            refine AllReadyIn.cons rfl (fun K hK => ?_) (AllReadyIn.nil)
            focus
              go_simp
              refine hK _ _ ?_
              clear hK K
              try simp only [Act.put, List.getElem_toArray, List.getElem_cons_zero, List.getElem_cons_succ, List.setIfInBounds_toArray, List.set_cons_zero, List.set_cons_succ]
              refine wpAnyIn_take (i := 8) (v := ?_) rfl rfl (by kernel_rfl) (by kernel_rfl) (by kernel_rfl) (fun _ _ _ h => by cases h.1) ⟨Or.inl ⟨by rfl, ?_⟩, fun _ => rfl⟩ ?_
              rotate_left
              · intro w
                go_simp
                try with_reducible rfl
              try simp only [Act.put, List.getElem_toArray, List.getElem_cons_zero, List.getElem_cons_succ, List.setIfInBounds_toArray, List.set_cons_zero, List.set_cons_succ]
              refine wpAnyIn_done (by kernel_rfl) ⟨rfl, ?_⟩ _
    rotate_left
    rotate_left
    focus
      go_simp
      refine hK _ _ ?_
      clear hK K
      try simp only [Act.put, List.getElem_toArray, List.getElem_cons_zero, List.getElem_cons_succ, List.setIfInBounds_toArray, List.set_cons_zero, List.set_cons_succ]
      refine wpAnyIn_take (i := 5) (v := ?_) rfl rfl (by kernel_rfl) (by kernel_rfl) (by kernel_rfl) (fun _ _ _ h => by cases h.1) ⟨Or.inl ⟨by rfl, ?_⟩, fun _ => rfl⟩ ?_
      rotate_left
      · intro w
        go_simp
        try with_reducible rfl
      try simp only [Act.put, List.getElem_toArray, List.getElem_cons_zero, List.getElem_cons_succ, List.setIfInBounds_toArray, List.set_cons_zero, List.set_cons_succ]
      refine wpAnyIn_ready (rs := [0, 1]) (by kernel_rfl) (by simp) ?_
      refine AllReadyIn.cons rfl (fun K hK => ?_) (AllReadyIn.cons rfl (fun K hK => ?_) (AllReadyIn.nil))
      focus
        go_simp
        refine hK _ _ ?_
        clear hK K
        try simp only [Act.put, List.getElem_toArray, List.getElem_cons_zero, List.getElem_cons_succ, List.setIfInBounds_toArray, List.set_cons_zero, List.set_cons_succ]
        refine wpAnyIn_ready (rs := [1, 6]) (by kernel_rfl) (by simp) ?_
        refine AllReadyIn.cons rfl (fun K hK => ?_) (AllReadyIn.cons rfl (fun K hK => ?_) (AllReadyIn.nil))
        focus
          go_simp
          refine hK _ _ ?_
          clear hK K
          try simp only [Act.put, List.getElem_toArray, List.getElem_cons_zero, List.getElem_cons_succ, List.setIfInBounds_toArray, List.set_cons_zero, List.set_cons_succ]
          refine wpAnyIn_ready (rs := [6]) (by kernel_rfl) (by simp) ?_
          refine AllReadyIn.cons rfl (fun K hK => ?_) (AllReadyIn.nil)
          focus
            go_simp
            refine hK _ _ ?_
            clear hK K
            try simp only [Act.put, List.getElem_toArray, List.getElem_cons_zero, List.getElem_cons_succ, List.setIfInBounds_toArray, List.set_cons_zero, List.set_cons_succ]
            refine wpAnyIn_ready (rs := [7]) (by kernel_rfl) (by simp) ?_
            refine AllReadyIn.cons rfl (fun K hK => ?_) (AllReadyIn.nil)
            focus
              go_simp
              refine hK _ _ ?_
              clear hK K
              try simp only [Act.put, List.getElem_toArray, List.getElem_cons_zero, List.getElem_cons_succ, List.setIfInBounds_toArray, List.set_cons_zero, List.set_cons_succ]
              refine wpAnyIn_take (i := 8) (v := ?_) rfl rfl (by kernel_rfl) (by kernel_rfl) (by kernel_rfl) (fun _ _ _ h => by cases h.1) ⟨Or.inl ⟨by rfl, ?_⟩, fun _ => rfl⟩ ?_
              rotate_left
              · intro w
                go_simp
                try with_reducible rfl
              try simp only [Act.put, List.getElem_toArray, List.getElem_cons_zero, List.getElem_cons_succ, List.setIfInBounds_toArray, List.set_cons_zero, List.set_cons_succ]
              refine wpAnyIn_done (by kernel_rfl) ⟨rfl, ?_⟩ _
        rotate_left
        focus
          go_simp
          refine hK _ _ ?_
          clear hK K
          try simp only [Act.put, List.getElem_toArray, List.getElem_cons_zero, List.getElem_cons_succ, List.setIfInBounds_toArray, List.set_cons_zero, List.set_cons_succ]
          refine wpAnyIn_ready (rs := [1]) (by kernel_rfl) (by simp) ?_
          refine AllReadyIn.cons rfl (fun K hK => ?_) (AllReadyIn.nil)
          focus
            go_simp
            refine hK _ _ ?_
            clear hK K
            try simp only [Act.put, List.getElem_toArray, List.getElem_cons_zero, List.getElem_cons_succ, List.setIfInBounds_toArray, List.set_cons_zero, List.set_cons_succ]
            refine wpAnyIn_ready (rs := [7]) (by kernel_rfl) (by simp) ?_
            refine AllReadyIn.cons rfl (fun K hK => ?_) (AllReadyIn.nil)
            focus
              go_simp
              refine hK _ _ ?_
              clear hK K
              try simp only [Act.put, List.getElem_toArray, List.getElem_cons_zero, List.getElem_cons_succ, List.setIfInBounds_toArray, List.set_cons_zero, List.set_cons_succ]
              refine wpAnyIn_take (i := 8) (v := ?_) rfl rfl (by kernel_rfl) (by kernel_rfl) (by kernel_rfl) (fun _ _ _ h => by cases h.1) ⟨Or.inl ⟨by rfl, ?_⟩, fun _ => rfl⟩ ?_
              rotate_left
              · intro w
                go_simp
                try with_reducible rfl
              try simp only [Act.put, List.getElem_toArray, List.getElem_cons_zero, List.getElem_cons_succ, List.setIfInBounds_toArray, List.set_cons_zero, List.set_cons_succ]
              refine wpAnyIn_done (by kernel_rfl) ⟨rfl, ?_⟩ _
      rotate_left
      rotate_left
      focus
        go_simp
        refine hK _ _ ?_
        clear hK K
        try simp only [Act.put, List.getElem_toArray, List.getElem_cons_zero, List.getElem_cons_succ, List.setIfInBounds_toArray, List.set_cons_zero, List.set_cons_succ]
        refine wpAnyIn_ready (rs := [0]) (by kernel_rfl) (by simp) ?_
        refine AllReadyIn.cons rfl (fun K hK => ?_) (AllReadyIn.nil)
        focus
          go_simp
          refine hK _ _ ?_
          clear hK K
          try simp only [Act.put, List.getElem_toArray, List.getElem_cons_zero, List.getElem_cons_succ, List.setIfInBounds_toArray, List.set_cons_zero, List.set_cons_succ]
          refine wpAnyIn_ready (rs := [6]) (by kernel_rfl) (by simp) ?_
          refine AllReadyIn.cons rfl (fun K hK => ?_) (AllReadyIn.nil)
          focus
            go_simp
            refine hK _ _ ?_
            clear hK K
            try simp only [Act.put, List.getElem_toArray, List.getElem_cons_zero, List.getElem_cons_succ, List.setIfInBounds_toArray, List.set_cons_zero, List.set_cons_succ]
            refine wpAnyIn_ready (rs := [7]) (by kernel_rfl) (by simp) ?_
            refine AllReadyIn.cons rfl (fun K hK => ?_) (AllReadyIn.nil)
            focus
              go_simp
              refine hK _ _ ?_
              clear hK K
              try simp only [Act.put, List.getElem_toArray, List.getElem_cons_zero, List.getElem_cons_succ, List.setIfInBounds_toArray, List.set_cons_zero, List.set_cons_succ]
              refine wpAnyIn_take (i := 8) (v := ?_) rfl rfl (by kernel_rfl) (by kernel_rfl) (by kernel_rfl) (fun _ _ _ h => by cases h.1) ⟨Or.inl ⟨by rfl, ?_⟩, fun _ => rfl⟩ ?_
              rotate_left
              · intro w
                go_simp
                try with_reducible rfl
              try simp only [Act.put, List.getElem_toArray, List.getElem_cons_zero, List.getElem_cons_succ, List.setIfInBounds_toArray, List.set_cons_zero, List.set_cons_succ]
              refine wpAnyIn_done (by kernel_rfl) ⟨rfl, ?_⟩ _
    all_goals
      gi_wp2
      obtain ⟨z1, z2, z3, z4⟩ := scan_fin HE2.out HE3.out HO.out H1.out HBW.out HALL.out (by omega) HDD.out HKV.out
      rw [HXL.out] at z1 z2 z3 z4
      refine ⟨by simp, .inl ⟨_, _, rfl, run_takeDeferred z1, ?_⟩⟩
      refine ⟨.tuple #[.slice oa xl co, .int .i64 (lastAt xs), .bool (((lastAt xs : Nat) : Int) == (b.length : Int))], by simp [results, Tryz.results35, go_sem, z2, z3], z4⟩
end Go.Proofs.YtecohkoekifeiaaGreatDoor
namespace Go.Proofs.YtecohkoekifeiaaGreatDoor
open Go.ChangeShapes Go.WideShapes Go.ChangeAt Go.RowKit
set_option linter.unusedVariables false
set_option linter.unusedSimpArgs false

/-- What stable.Get tells. -/
def GetVAt (b : List Int) (w : World) (e : Ending) (w' : World) : Prop :=
  Kp (fun _ => False) w w' ∧ (e = .returned (.tuple #[.agg #[.int .i64 0, .int .i64 0], .int .i64 21]) ∨
    ∃ (t n : Nat) (v : Int), b = frm 4 (enc t ++ enc n) ∧ t < 1099511627776 ∧ n ≤ 16 ∧ v + 1 = n ∧ e = .returned (.tuple #[.agg #[.int .i64 t, .int .i64 v], .int .i64 0]))

theorem num_48 {r : Rd} (hb : Byte r.b) : r.num.1 < 281474976710656 := by
  by_cases he : r.num.2.e = 0
  · exact (Rd.num_ok hb he).2
  · have : r.num.1 = 0 := by
      revert he
      unfold Rd.num
      split
      · split
        · simp
        · split
          · simp
          · split
            · simp
            · split
              · simp
              · intro he
                exact absurd rfl he
      · simp
    omega

/-- The end of a reader: 0, or an error. -/
theorem end_or (r : Rd) : (r.e = 0 ∧ r.b = [] ∧ (if r.e ≠ 0 then r.e else if r.b.length = 0 then 0 else 21) = (0 : Int)) ∨ (if r.e ≠ 0 then r.e else if r.b.length = 0 then 0 else 21) ≠ (0 : Int) := by
  by_cases he : r.e = 0
  · by_cases hb : r.b.length = 0
    · exact .inl ⟨he, List.eq_nil_of_length_eq_zero hb, by simp [he, hb]⟩
    · exact .inr (by simp only [he, hb]; simp)
  · exact .inr (by simp [he])

theorem set2 {w : World} {b : Nat} {x y p q : Value} {ty : TypeId} (h : w.heap[b]? = some (.cells #[x, y] ty (0, 0))) : ((w.setCell ⟨b, 0, none⟩ p).setCell ⟨b, 1, none⟩ q).heap[b]? = some (.cells #[p, q] ty (0, 0)) := by
  have := heap_set (heap_set h 0 p) 1 q
  simpa using this
theorem kp2 {w u : World} {p q : Value} (h : Kp (fun _ => False) w u) {b : Nat} (hb : w.heap.size ≤ b) : Kp (fun _ => False) w ((u.setCell ⟨b, 0, none⟩ p).setCell ⟨b, 1, none⟩ q) :=
  (h.setCell (p := ⟨b, 0, none⟩) (.inr hb) p).setCell (p := ⟨b, 1, none⟩) (.inr hb) q

set_option maxRecDepth 100000 in
set_option maxHeartbeats 800000 in
theorem stGet_any {w : World} {a : Option Addr} {b : List Int} (h : Row w a (bytes b)) (hB : Byte b) (hm : b.length ≤ 16777216) (c : Nat) (hcap : b.length ≤ c) :
    Calls Tryz.prog 11 #[.slice a b.length c] w (GetVAt b w) := by
  have HS := Lib.hid (scan_any (w := w.alloc (.cells #[.int .i64 0, .int .i64 0] 42)) (h.no ((Kp.refl _ _).alloc _)) hB hm c hcap (by simp))
  clear h
  go_enter Tryz.func11, Tryz.ntmps11
  go_wp2_with (go_at_call 35; refine Stop.mk ?_)
  unfold Stop
  refine (HS.out).mono ?_
  rintro e w1 ⟨l, n, cl, en, rfl, hk1, hx⟩
  have hT1 := hk1.heap (heap_new w (.cells #[.int .i64 0, .int .i64 0] 42)) (fun h => h)
  have hw1 : w.heap.size + 1 ≤ w1.heap.size := by have := hk1.size; simpa using this
  have hKB : Kp (fun _ => False) w w1 := ((Kp.refl _ _).alloc _).trans hk1
  have d0 := cell_of hT1 0 rfl
  have d1 := cell_of hT1 1 rfl
  have f0 := free_of hT1 0
  have f1 := free_of hT1 1
  have HT1 := Lib.hid hT1
  have HKB := Lib.hid hKB
  have HX := Lib.hid hx
  clear hk1 hT1 hKB hx HS
  by_cases he : en = b.length
  · by_cases hn : n = 1
    · subst hn
      subst he
      obtain ⟨x, g, rfl, hc0, hc1, hrow, hb, hBd, hk, hl⟩ := HX.out rfl rfl
      obtain ⟨at_, k, d, ad, cap⟩ := x
      dsimp only at hc0 hc1 hrow hb hBd hk hl
      have HN := Lib.hid (new_in hrow (by omega) cap)
      have HB := Lib.hid hb
      have HBD := Lib.hid hBd
      clear hrow hb hBd HX
      by_cases h4 : k = 4
      · subst h4
        generalize hdl : d.length = dl at hc1 HN hl
        have HDL := Lib.hid hdl
        clear hdl
        go_wp2_with (go_at_call 19; refine Stop.mk ?_)
        unfold Stop
        refine (HN.out).mono ?_
        rintro e w2 ⟨rb, G, o1, co1, rfl, hr1, hrb, hG, hk2⟩
        have HU := Lib.hid (num_reads hr1 HBD.out (by rw [HDL.out]; omega))
        have HR1 := Lib.hid hr1
        have HK2 := Lib.hid hk2
        have HG := Lib.hid hG
        clear hr1 hk2 hG HN d0 d1 f0 f1 hc0 hc1
        go_wp2_with (go_at_call 20; refine Stop.mk ?_)
        unfold Stop
        refine (HU.out).mono ?_
        rintro e w3 ⟨rfl, a3, c3, hr3, hk3⟩
        have hb3 := Rd.num_byte (r := ⟨0, d⟩) HBD.out
        have hl3 := num_lt (r := ⟨0, d⟩)
        have ht3 := num_48 (r := ⟨0, d⟩) HBD.out
        have ho3 := Rd.num_ok (r := ⟨0, d⟩) HBD.out
        generalize (⟨0, d⟩ : Rd).num = q1 at hr3 hb3 hl3 ht3 ho3 ⊢
        obtain ⟨n1, q1⟩ := q1
        dsimp only at hr3 hb3 hl3 ht3 ho3 ⊢
        rw [HDL.out] at hl3
        have HU2 := Lib.hid (num_reads hr3 hb3 (by omega))
        have HR3 := Lib.hid hr3
        have HK3 := Lib.hid hk3
        have HO3 := Lib.hid ho3
        clear hr3 hk3 ho3 HU
        go_wp2_with (go_at_call 20; refine Stop.mk ?_)
        unfold Stop
        refine (HU2.out).mono ?_
        rintro e w4 ⟨rfl, a4, c4, hr4, hk4⟩
        have ht4 := num_48 (r := q1) hb3
        have ho4 := Rd.num_ok (r := q1) hb3
        have he4 := @Rd.num_e q1
        generalize q1.num = q2 at hr4 ht4 ho4 he4 ⊢
        obtain ⟨n2, q2⟩ := q2
        dsimp only at hr4 ht4 ho4 he4 ⊢
        have hk5 : Kp (fun _ => False) w1 (w4.alloc (.cells #[.int .i64 n1, .int .i64 ((n2 : Int) - 1)] 42)) := by
          refine Kp.alloc ?_ _
          exact ((HK2.out.mono (S' := fun j => w1.heap.size ≤ j) (fun _ _ h => h.elim)).andThen (HK3.out.trans hk4) (fun i _ e => by omega)).fin
        have hV := heap_new w4 (.cells #[.int .i64 n1, .int .i64 ((n2 : Int) - 1)] 42)
        have v0 := cell_of hV 0 rfl
        have v1 := cell_of hV 1 rfl
        have hwv : wrap64 ((n2 : Int) - 1) = (n2 : Int) - 1 := by unfold wrap64; omega
        have HR5 := Lib.hid (hr4.kp ((Kp.refl (fun _ => False) _).alloc (.cells #[.int .i64 n1, .int .i64 ((n2 : Int) - 1)] 42)) (fun h => h) (fun _ _ h => h))
        have HK5 := Lib.hid hk5
        have HO4 := Lib.hid ho4
        have HE4 := Lib.hid he4
        have HV := Lib.hid hV
        clear hr4 hk4 ho4 he4 hV HU2 hk5
        by_cases hfit : n1 < 1099511627776 ∧ n2 ≤ 16
        · obtain ⟨hf1, hf2⟩ := hfit
          have HP := Lib.hid (fun u => stPut_good u n1 n2 hf1 hf2 ((n2 : Int) - 1) (by omega))
          have HF := Lib.hid (⟨hf1, hf2⟩ : n1 < 1099511627776 ∧ n2 ≤ 16)
          clear hf1 hf2
          go_wp2_with (first | (go_at_call 12; refine Stop.mk ?_))
          unfold Stop
          refine (HP.out _).mono ?_
          rintro e w6 ⟨o6, c6, rfl, ho6, hk6⟩
          have HEN := Lib.hid (end_any (HR5.out.kp hk6 (fun h => h) (fun _ _ h => h)))
          have HK6 := Lib.hid (HK5.out.trans hk6)
          have hT6 : w6.heap[w.heap.size]? = some (.cells #[.int .i64 0, .int .i64 0] 42 (0, 0)) := HK6.out.heap HT1.out (fun h => h)
          have hV6 := hk6.heap HV.out (fun h => h)
          have d0 := cell_of hT6 0 rfl
          have d1 := cell_of hT6 1 rfl
          have f0 := free_of hT6 0
          have f1 := free_of hT6 1
          have e0 := cell_of hV6 0 rfl
          have e1 := cell_of hV6 1 rfl
          have HT6 := Lib.hid hT6
          clear ho6 hk6 hT6 hV6 HV v0 v1
          rcases end_or q2 with ⟨hq1, hq2, hq⟩ | hq
          · rw [hq] at HEN
            have HQ := Lib.hid (⟨hq1, hq2⟩ : q2.e = 0 ∧ q2.b = [])
            clear hq hq1 hq2
            go_wp2_with (first | (go_at_call 22; refine (HEN.out).mono ?_; rintro e w7 ⟨rfl, rfl⟩))
            have z := set2 (p := .int .i64 n1) (q := .int .i64 ((n2 : Int) - 1)) HT6.out
            have z0 := cell_of z 0 rfl
            have z1 := cell_of z 1 rfl
            refine bodyPost_ret (v := .tuple #[.agg #[.int .i64 n1, .int .i64 ((n2 : Int) - 1)], .int .i64 0]) (by simp [results, Tryz.results11, go_sem, z0, z1]) rfl ⟨kp2 (HKB.out.trans HK6.out) (Nat.le_refl _), .inr ⟨n1, n2, (n2 : Int) - 1, ?_, HF.out.1, HF.out.2, by omega, rfl⟩⟩
            have h2 := HO4.out HQ.out.1
            have h1 := HO3.out (HE4.out HQ.out.1)
            have hd : d = enc n1 ++ enc n2 := by
              have h3 : d = enc n1 ++ q1.b := h1.1
              rw [h3, h2.1, HQ.out.2, List.append_nil]
            rw [← hd]
            exact HB.out
          · generalize (if q2.e ≠ 0 then q2.e else if q2.b.length = 0 then 0 else 21) = er at HEN hq
            go_wp2_with (first | (go_at_call 22; refine (HEN.out).mono ?_; rintro e w7 ⟨rfl, rfl⟩))
            have z := set2 (p := .int .i64 0) (q := .int .i64 0) HT6.out
            have z0 := cell_of z 0 rfl
            have z1 := cell_of z 1 rfl
            exact bodyPost_ret (v := .tuple #[.agg #[.int .i64 0, .int .i64 0], .int .i64 21]) (by simp [results, Tryz.results11, go_sem, z0, z1]) rfl ⟨kp2 (HKB.out.trans HK6.out) (Nat.le_refl _), .inl rfl⟩
        · have HF := Lib.hid hfit
          clear hfit
          have HP := Lib.hid (fun u => stPut_bad u n1 n2 (by omega) ((n2 : Int) - 1) (by omega) (by have := HF.out; omega))
          go_wp2_with (first | (go_at_call 12; refine Stop.mk ?_))
          unfold Stop
          refine (HP.out _).mono ?_
          rintro e w6 ⟨rfl, hk6⟩
          have HEN := Lib.hid (end_any (HR5.out.kp hk6 (fun h => h) (fun _ _ h => h)))
          have HK6 := Lib.hid (HK5.out.trans hk6)
          have hT6 : w6.heap[w.heap.size]? = some (.cells #[.int .i64 0, .int .i64 0] 42 (0, 0)) := HK6.out.heap HT1.out (fun h => h)
          have hV6 := hk6.heap HV.out (fun h => h)
          have d0 := cell_of hT6 0 rfl
          have d1 := cell_of hT6 1 rfl
          have f0 := free_of hT6 0
          have f1 := free_of hT6 1
          have e0 := cell_of hV6 0 rfl
          have e1 := cell_of hV6 1 rfl
          have HT6 := Lib.hid hT6
          clear hk6 hT6 hV6 HV v0 v1
          by_cases hq : (if q2.e ≠ 0 then q2.e else if q2.b.length = 0 then 0 else 21) = (0 : Int)
          · rw [hq] at HEN
            clear hq
            go_wp2_with (first | (go_at_call 22; refine (HEN.out).mono ?_; rintro e w7 ⟨rfl, rfl⟩))
            have z := set2 (p := .int .i64 0) (q := .int .i64 0) HT6.out
            have z0 := cell_of z 0 rfl
            have z1 := cell_of z 1 rfl
            exact bodyPost_ret (v := .tuple #[.agg #[.int .i64 0, .int .i64 0], .int .i64 21]) (by simp [results, Tryz.results11, go_sem, z0, z1]) rfl ⟨kp2 (HKB.out.trans HK6.out) (Nat.le_refl _), .inl rfl⟩
          · generalize (if q2.e ≠ 0 then q2.e else if q2.b.length = 0 then 0 else 21) = er at HEN hq
            go_wp2_with (first | (go_at_call 22; refine (HEN.out).mono ?_; rintro e w7 ⟨rfl, rfl⟩))
            have z := set2 (p := .int .i64 0) (q := .int .i64 0) HT6.out
            have z0 := cell_of z 0 rfl
            have z1 := cell_of z 1 rfl
            exact bodyPost_ret (v := .tuple #[.agg #[.int .i64 0, .int .i64 0], .int .i64 21]) (by simp [results, Tryz.results11, go_sem, z0, z1]) rfl ⟨kp2 (HKB.out.trans HK6.out) (Nat.le_refl _), .inl rfl⟩
      · have h4I : ¬ ((k : Int) = 4) := by omega
        go_wp2_with fail
        have z := set2 (p := .int .i64 0) (q := .int .i64 0) HT1.out
        have z0 := cell_of z 0 rfl
        have z1 := cell_of z 1 rfl
        exact bodyPost_ret (v := .tuple #[.agg #[.int .i64 0, .int .i64 0], .int .i64 21]) (by simp [results, Tryz.results11, go_sem, z0, z1]) rfl ⟨kp2 HKB.out (Nat.le_refl _), .inl rfl⟩
    · have hnI : ¬ ((n : Int) = 1) := by omega
      go_wp2_with fail
      have z := set2 (p := .int .i64 0) (q := .int .i64 0) HT1.out
      have z0 := cell_of z 0 rfl
      have z1 := cell_of z 1 rfl
      exact bodyPost_ret (v := .tuple #[.agg #[.int .i64 0, .int .i64 0], .int .i64 21]) (by simp [results, Tryz.results11, go_sem, z0, z1]) rfl ⟨kp2 HKB.out (Nat.le_refl _), .inl rfl⟩
  · go_wp2_with fail
    have z := set2 (p := .int .i64 0) (q := .int .i64 0) HT1.out
    have z0 := cell_of z 0 rfl
    have z1 := cell_of z 1 rfl
    exact bodyPost_ret (v := .tuple #[.agg #[.int .i64 0, .int .i64 0], .int .i64 21]) (by simp [results, Tryz.results11, go_sem, z0, z1]) rfl ⟨kp2 HKB.out (Nat.le_refl _), .inl rfl⟩
end Go.Proofs.YtecohkoekifeiaaGreatDoor
