/-
  ClientApart: for every four ints the law returns true. No condition.
-/
import Derived.Test.YtjhefbkigmamfaaCw
import Derived.Test.YtjhefbkigmamfaaImar
import Derived.Test.YtjhefbkigmamfaaFin
namespace Go.Proofs.Ytjhefbkigmamfaa.clientApart
open Go.ChangeShapes Go.WideShapes Go.ChangeAt Go.RowKit
set_option linter.unusedVariables false

/-- The calls of client i behind T of them. -/
def cs (i : Int) (T : Nat) : List (Int × Int) := (List.range T).map fun k : Nat => (0, i * 1000000 + ((k : Int) + 1))
theorem cs_length (i : Int) (T : Nat) : (cs i T).length = T := by simp [cs]
theorem cs_succ (i : Int) (T : Nat) : cs i (T + 1) = cs i T ++ [(0, i * 1000000 + ((T : Int) + 1))] := by simp [cs, List.range_succ]
theorem cs_get (i : Int) (T k : Nat) (hk : k < T) : (cs i T)[k]? = some (0, i * 1000000 + ((k : Int) + 1)) := by simp [cs, hk]
/-- The numbers that were met. -/
def ms (i : Int) (c : Nat) : List (Int × Value) := (List.range c).map fun k : Nat => (i * 1000000 + ((k : Int) + 1), Value.bool true)
theorem ms_length (i : Int) (c : Nat) : (ms i c).length = c := by simp [ms]
theorem mem_ms (i : Int) (c : Nat) (z : Int) : z ∈ (ms i c).map (·.1) ↔ ∃ k : Nat, k < c ∧ z = i * 1000000 + ((k : Int) + 1) := by
  simp only [ms, List.map_map, List.mem_map, List.mem_range, Function.comp]
  constructor
  · rintro ⟨k, h, e⟩; exact ⟨k, h, e.symm⟩
  · rintro ⟨k, h, e⟩; exact ⟨k, h, e.symm⟩
theorem ms_put (i : Int) (c : Nat) : putm (ms i c) (i * 1000000 + ((c : Int) + 1)) (.bool true) = ms i (c + 1) := by
  rw [putm_new]
  · simp [ms, List.range_succ]
  · rw [mem_ms]
    rintro ⟨k, h, e⟩
    omega
theorem getm_all : ∀ (m : List (Int × Value)) (z : Int), (∀ q ∈ m, q.2 = .bool true) → z ∈ m.map (·.1) → getm m z = some (.bool true)
  | [], z, _, h => by simp at h
  | q :: r, z, ha, h => by
    show (if z = q.1 then some q.2 else getm r z) = _
    by_cases e : z = q.1
    · rw [if_pos e, ha q (by simp)]
    · rw [if_neg e]
      refine getm_all r z (fun x hx => ha x (by simp [hx])) ?_
      simp at h
      rcases h with h | h
      · exact absurd h e
      · simpa using h
theorem get_ms (i : Int) (c : Nat) (z : Int) : (getm (ms i c) z).getD (.bool false) = .bool (decide (∃ k : Nat, k < c ∧ z = i * 1000000 + ((k : Int) + 1))) := by
  by_cases h : ∃ k : Nat, k < c ∧ z = i * 1000000 + ((k : Int) + 1)
  · rw [getm_all _ _ (fun q hq => by simp [ms] at hq; obtain ⟨_, _, rfl⟩ := hq; rfl) ((mem_ms i c z).2 h), decide_eq_true h]
    rfl
  · rw [getm_none.2 (fun hm => h ((mem_ms i c z).1 hm)), decide_eq_false h]
    rfl
/-- Of two clients the numbers meet where they are the same client. -/
theorem meet (a b : Int) (c k : Nat) (hc : c ≤ 1000) (hk : k ≤ 1000) : decide (∃ j : Nat, j < c ∧ b * 1000000 + ((k : Int) + 1) = a * 1000000 + ((j : Int) + 1)) = (decide (a = b) && decide (k < c)) := by
  rw [Bool.eq_iff_iff]
  simp only [decide_eq_true_eq, Bool.and_eq_true]
  constructor
  · rintro ⟨j, h, e⟩
    have h1 : a = b := by omega
    subst h1
    exact ⟨rfl, by omega⟩
  · rintro ⟨rfl, h⟩
    exact ⟨k, h, rfl⟩
theorem zeroBool (w : World) : (zeroValue 4).run Try.prog w = .ok (.bool false) w := by kernel_rfl
/-- Two clients, of no common block: those of M are the first one's. -/
def CP (w : World) (B b1 b2 : Nat) (i1 i2 : Int) (T1 T2 : Nat) : Prop := ∃ M : Nat → Prop,
  CW w B b1 (fun j => j < w.heap.size ∧ ¬ M j) i1 1 [0] 0 0 T1 (cs i1 T1) ∧ CW w B b2 (fun j => j < w.heap.size ∧ M j) i2 1 [0] 0 0 T2 (cs i2 T2)
theorem CP.kp {w w' : World} {B b1 b2 : Nat} {i1 i2 : Int} {T1 T2 : Nat} (h : CP w B b1 b2 i1 i2 T1 T2) (hk : Kp (fun _ => False) w w') : CP w' B b1 b2 i1 i2 T1 T2 := by
  obtain ⟨M, h1, h2⟩ := h
  exact ⟨M, ((h1.other (N' := fun j => (j < w.heap.size ∧ ¬ M j) ∨ w.heap.size ≤ j) (fun j h => h)).kp hk (fun j h => h.elim)).other (fun j h => .inl (by by_cases e : j < w.heap.size; exact .inl ⟨e, h.2⟩; exact .inr (by omega))),
    ((h2.other (N' := fun j => (j < w.heap.size ∧ M j) ∨ w.heap.size ≤ j) (fun j h => h)).kp hk (fun j h => h.elim)).other (fun j h => .inl (by by_cases e : j < w.heap.size; exact .inl ⟨e, h.2⟩; exact .inr (by omega)))⟩
theorem tick_first {w : World} {B b1 b2 : Nat} {i1 i2 : Int} {T1 T2 : Nat} (h : CP w B b1 b2 i1 i2 T1 T2) (ht : T1 ≤ 1000) :
    Calls Try.prog 13 #[.pointer (some ⟨b1, 0, none⟩)] w fun e w' => e = .returned (.int .i64 0) ∧ CP w' B b1 b2 i1 i2 (T1 + 1) T2 ∧ Kp (fun j => B ≤ j) w w' := by
  obtain ⟨M, h1, h2⟩ := h
  refine Calls.mono (tick_cw h1 (fun j h => h.1) (by decide) (by decide) (by omega) (by omega) (by rw [cs_length]; omega)) ?_
  rintro e w' ⟨he, h3, hk⟩
  rw [if_neg (by decide)] at h3
  have h4 := (h2.other (N' := fun j => (j < w.heap.size ∧ M j) ∨ w.heap.size ≤ j) (fun j h => h)).kp hk (fun j hj => by
    by_cases hs : j < w.heap.size
    · by_cases hm : M j
      · exact .inl (.inl ⟨hs, hm⟩)
      · exact absurd ⟨hs, hm⟩ hj.2
    · exact .inr (.inr (by omega)))
  refine ⟨he, ⟨fun j => M j ∨ w.heap.size ≤ j, ?_, h4.other (fun j h => .inl ?_)⟩, hk.mono (fun j _ h => h.1)⟩
  · have e1 : cs i1 (T1 + 1) = cs i1 T1 ++ [([(0 : Int)].getD ((0 + 1) % [(0 : Int)].length) 0, i1 * 1000000 + ((T1 : Int) + 1))] := by rw [cs_succ]; rfl
    rw [e1]
    exact h3.other (fun j h => .inl ⟨by have : ¬ (M j ∨ w.heap.size ≤ j) := h.2; omega, fun hm => h.2 (.inl hm)⟩)
  · by_cases hs : j < w.heap.size
    · exact .inl ⟨hs, h.2.resolve_right (by omega)⟩
    · exact .inr (by omega)
theorem CP.swap {w : World} {B b1 b2 : Nat} {i1 i2 : Int} {T1 T2 : Nat} (h : CP w B b1 b2 i1 i2 T1 T2) : CP w B b2 b1 i2 i1 T2 T1 := by
  obtain ⟨M, h1, h2⟩ := h
  exact ⟨fun j => ¬ M j, h2.other (fun j h => .inl ⟨h.1, Classical.not_not.1 h.2⟩), h1.other (fun j h => .inl h)⟩
theorem tick_second {w : World} {B b1 b2 : Nat} {i1 i2 : Int} {T1 T2 : Nat} (h : CP w B b1 b2 i1 i2 T1 T2) (ht : T2 ≤ 1000) :
    Calls Try.prog 13 #[.pointer (some ⟨b2, 0, none⟩)] w fun e w' => e = .returned (.int .i64 0) ∧ CP w' B b1 b2 i1 i2 T1 (T2 + 1) ∧ Kp (fun j => B ≤ j) w w' :=
  Calls.mono (tick_first h.swap ht) fun e w' ⟨he, h1, h2⟩ => ⟨he, h1.swap, h2⟩

theorem open_two {w : World} {B : Nat} {R : Nat → Prop} {b : Nat} {sa : Option Addr} {zs : List Int} {sc : Nat} {id pat : Int} (k : Client w B R b (cv0 sa zs sc id pat)) {N : Nat → Prop} (hN : ∀ j, N j → ¬ All R b (cv0 sa zs sc id pat) j ∧ j < w.heap.size) :
    Calls Try.prog 12 #[.pointer (some ⟨b, 0, none⟩), .agg #[.int .i64 1, .int .i64 0, .int .i64 0, .slice none 0 0]] w fun e w' => e = .returned (.int .i64 0) ∧ CW w' B b N id pat zs 0 0 1 [(zs.getD 0 0, id * 1000000 + 1)] ∧ Kp (fun j => j = b) w w' := by
  refine Calls.mono (do_yes k open0 (doE_open rfl) (Row.nil _ _) (fun g hg => by cases hg) (by simp [open0]) (few_small _ (by simp [cv0]) (by simp [cv0])) (by simp [cv0]) (few_small _ (by simp [cv0]) (by simp [cv0])) (by simp [cv0]) (by simp [cv0]) (Nat.le_trans k.ge (Nat.le_of_lt (lt_of_block k.blk)))) ?_
  rintro e w' ⟨he, oa, oc, da, dc, R', ca', cc', k', hk, hr, hm⟩
  refine ⟨he, ⟨R', _, k', fun j h ha => ?_, rfl, rfl, rfl, rfl, rfl, rfl, rfl, rfl⟩, hk.mono (fun j _ h => h.elim (fun e => e) (fun e => by cases e))⟩
  obtain ⟨h1, h2⟩ := hN j h
  rcases ha with ha | ha
  · exact h1 (.inl (hm.old ha h2))
  · rcases hr j ha with h | h
    · exact h1 (.inr h)
    · omega
theorem base_owns {w : World} {B B' : Nat} {e : TypeId} {size : Nat} {a : Option Addr} {n cap : Nat} {xs : List Value} (h : Owns w B e size a n cap xs) (hB : B' ≤ B) : Owns w B' e size a n cap xs := by
  refine ⟨h.1, ?_⟩
  rcases h.2 with h | ⟨g, cap', cur, hv, hge, r⟩
  · exact .inl h
  · exact .inr ⟨g, cap', cur, hv, by omega, r⟩
theorem base_cw {w : World} {B B' b : Nat} {N : Nat → Prop} {id pat : Int} {zs : List Int} {p : Int} {at_ : Nat} {T : Int} {l : List (Int × Int)} (h : CW w B b N id pat zs p at_ T l) (hB : B' ≤ B) : CW w B' b N id pat zs p at_ T l := by
  obtain ⟨R, v, k, r⟩ := h
  exact ⟨R, v, ⟨k.blk, by have := k.ge; omega, k.srv, k.srvR, k.one, k.seven, k.rs, k.at_, k.id1, k.id2, k.pat1, k.pat2, k.ord, k.ordR, k.ordL, k.ans, k.ansR, k.rec_, base_owns k.own hB, k.dat, k.dis, fun j hj => ⟨by have := (k.lt j hj).1; omega, (k.lt j hj).2⟩⟩, r⟩
theorem num_same (w : World) (e : Int) : Calls Try.prog 10 #[.int .i64 e] w fun r w' => r = .returned (.int .i64 e) ∧ w = w' := Calls.mono (num_any w e) fun _ _ ⟨h1, h2⟩ => ⟨h1, h2.symm⟩
theorem lit0 (w : World) : Row (w.alloc (.cells #[.int .i64 0] 3)) (some ⟨w.heap.size, 0, none⟩) (ints [0]) := by
  intro i v hv
  refine ⟨w.heap.size, 0, rfl, ?_⟩
  rw [Nat.zero_add]
  exact cell_of (heap_new w _) i (by simpa [ints] using hv)
theorem good0 (i : Int) (h1 : 1 ≤ i) (h2 : i ≤ 1000) : Good i [0] 1 := ⟨h1, h2, by decide, by decide, by decide⟩

set_option maxRecDepth 100000 in
set_option maxHeartbeats 4000000 in
theorem walk (a0 a1 m n : Int) (W : World) : Calls Try.prog 4 #[.int .i64 a0, .int .i64 a1, .int .i64 m, .int .i64 n] W fun e w' => e = .returned (.bool true) ∧ Below W.heap.size W w' := by
  have wa := md_in a0 1000 (by omega) (by omega)
  have wb := md_in a1 1000 (by omega) (by omega)
  have la := md_lo a0 1000 (by omega)
  have ha := md_hi a0 1000 (by omega)
  have lb := md_lo a1 1000 (by omega)
  have hb := md_hi a1 1000 (by omega)
  unfold md at la ha lb hb
  have wa1 : IntKind.i64.wrap (1 + (a0.tmod 1000 + 1000).tmod 1000) = 1 + (a0.tmod 1000 + 1000).tmod 1000 := IntWalk.i64_in _ (by omega)
  have wb1 : IntKind.i64.wrap (1 + (a1.tmod 1000 + 1000).tmod 1000) = 1 + (a1.tmod 1000 + 1000).tmod 1000 := IntWalk.i64_in _ (by omega)
  have HLA := Lib.hid la
  have HHA := Lib.hid ha
  have HLB := Lib.hid lb
  have HHB := Lib.hid hb
  clear la ha lb hb
  have hmm := @run_makeMap Try.prog
  go_enter Try.func4, Try.ntmps4
  go_upto_region 3 with fail
  obtain ⟨A, hA⟩ : ∃ A : Int, A = 1 + (a0.tmod 1000 + 1000).tmod 1000 := ⟨_, rfl⟩
  obtain ⟨D, hD⟩ : ∃ D : Int, D = 1 + (a1.tmod 1000 + 1000).tmod 1000 := ⟨_, rfl⟩
  have hA1 : 1 ≤ A := by have := HLA.out; omega
  have hA2 : A ≤ 1000 := by have := HHA.out; omega
  have hD1 : 1 ≤ D := by have := HLB.out; omega
  have hD2 : D ≤ 1000 := by have := HHB.out; omega
  rw [← hA, ← hD]
  clear wa wb wa1 wb1 hA hD HLA HHA HLB HHB
  have HN1 := Lib.hid (new_good (c := 1) (lit0 W) (good0 A hA1 hA2))
  go_wp2_with fail
  refine HN1.out.mono ?_
  rintro e w2 ⟨R1, b1, sa1, sc1, rfl, k1, hk2⟩
  have K1 := Lib.hid k1
  have HK2 := Lib.hid (show Kp (fun _ => False) W w2 from ((Kp.refl _ _).alloc _).trans hk2)
  have HN2 := Lib.hid (new_good (c := 1) (lit0 w2) (good0 D hD1 hD2))
  clear k1 hk2 HN1
  go_wp2_with fail
  refine HN2.out.mono ?_
  rintro e w4 ⟨R2, b2, sa2, sc2, rfl, k2, hk4⟩
  have hk24 : Kp (fun _ => False) w2 w4 := ((Kp.refl _ _).alloc _).trans hk4
  have hB1 : (W.alloc (.cells #[.int .i64 0] 3)).heap.size = W.heap.size + 1 := by simp
  have hB2 : (w2.alloc (.cells #[.int .i64 0] 3)).heap.size = w2.heap.size + 1 := by simp
  have K1' := Lib.hid (K1.out.no hk24)
  have K1lt := Lib.hid (show ∀ j, All R1 b1 (cv0 sa1 [0] sc1 A 1) j → j < w2.heap.size from fun j h => (K1.out.all h).2)
  have K2 := Lib.hid k2
  have hs24 := hk24.size
  have hsW2 := HK2.out.size
  have HK4 := Lib.hid (HK2.out.trans hk24)
  clear k2 hk4 hk24 HN2 HK2 K1
  go_wp2_with (first | (go_at_call 10; refine (num_same _ _).mono ?_; rintro e w' ⟨rfl, rfl⟩))
  refine (open_two K1'.out (N := fun j => j < w4.heap.size ∧ ¬ j < w2.heap.size) (fun j h => ⟨fun ha => h.2 (K1lt.out j ha), h.1⟩)).mono ?_
  rintro e w5 ⟨rfl, c5, hk5⟩
  have hb1 : b1 < w2.heap.size := K1lt.out b1 (.inl (.inl rfl))
  have K2' := Lib.hid (K2.out.kp hk5 (fun j hj (e : j = b1) => by have := (K2.out.all hj).1; omega))
  have C5 := Lib.hid (c5.other (N' := fun j => (j < w4.heap.size ∧ ¬ j < w2.heap.size) ∨ w5.heap.size ≤ j) (fun j h => h))
  have hs45 := hk5.size
  have hb1W : W.heap.size ≤ b1 := by have := K1'.out.ge; omega
  have HK5 := Lib.hid (show Kp (fun j => W.heap.size ≤ j) W w5 from HK4.out.no.trans (hk5.mono (fun j _ (e : j = b1) => by omega)))
  have K2lt := Lib.hid (show ∀ j, All R2 b2 (cv0 sa2 [0] sc2 D 1) j → w2.heap.size < j ∧ j < w4.heap.size from fun j h => by have := K2.out.all h; omega)
  clear c5 hk5 K1' K2 HK4
  go_wp2_with (first | (go_at_call 10; refine (num_same _ _).mono ?_; rintro e w' ⟨rfl, rfl⟩))
  refine (open_two K2'.out (N := fun j => j < w5.heap.size ∧ (j < w2.heap.size + 1 ∨ w4.heap.size ≤ j)) (fun j h => ⟨fun ha => by have := K2lt.out j ha; omega, h.1⟩)).mono ?_
  rintro e w6 ⟨rfl, c6, hk6⟩
  have hb2 := K2lt.out b2 (.inl (.inl rfl))
  have hcp : CP w6 W.heap.size b1 b2 A D 1 1 := by
    refine ⟨fun j => j < w2.heap.size + 1 ∨ (w4.heap.size ≤ j ∧ j < w5.heap.size), ?_, ?_⟩
    · refine base_cw ((C5.out.kp hk6 (fun j (e : j = b2) => .inl (.inl ⟨by omega, by omega⟩))).other (fun j h => .inl ?_)) (by omega)
      obtain ⟨h1, h2⟩ := h
      by_cases h3 : w5.heap.size ≤ j
      · exact .inr h3
      · refine .inl ⟨?_, fun h4 => h2 (.inl (by omega))⟩
        refine Nat.lt_of_not_le fun h4 => h2 (.inr ⟨h4, by omega⟩)
    · exact base_cw (c6.other (fun j h => .inl ⟨h.2.elim (fun e => by omega) (fun e => e.2), h.2.imp_right (fun e => e.1)⟩)) (by omega)
  have HCP := Lib.hid hcp
  have HK6 := Lib.hid (show Kp (fun j => W.heap.size ≤ j) W w6 from HK5.out.trans (hk6.mono (fun j _ (e : j = b2) => by omega)))
  clear c6 hk6 hcp C5 K2' K2lt K1lt HK5 hb1 hb2 hs45 hs24 hB1 hB2 hsW2 hb1W
  go_wp2_with (first | (go_at_call 10; refine (num_same _ _).mono ?_; rintro e w' ⟨rfl, rfl⟩))
  have wm := md_in m 300 (by omega) (by omega)
  have LM := Lib.hid (md_lo m 300 (by omega))
  have HM := Lib.hid (md_hi m 300 (by omega))
  have wn := md_in n 300 (by omega) (by omega)
  have LN := Lib.hid (md_lo n 300 (by omega))
  have HN := Lib.hid (md_hi n 300 (by omega))
  go_loopw [13] (fun q wr => ∃ k : Nat, q = .int .i64 k ∧ (k : Int) ≤ (m.tmod 300 + 300).tmod 300 ∧ CP wr W.heap.size b1 b2 A D (1 + k) 1 ∧ Kp (fun j => W.heap.size ≤ j) W wr) (fun q _ => 300 - (intOf q).toNat)
  case atStart => exact ⟨0, rfl, LM.out, HCP.out, HK6.out⟩
  case round =>
    clear HCP HK6
    obtain ⟨k, rfl, hk, hc, hK⟩ := hrel
    have hk3 : k < 300 := by have h := HM.out; unfold md at h; omega
    have HC := Lib.hid hc
    have HK := Lib.hid hK
    clear hc hK
    by_cases hlt : (k : Int) < (m.tmod 300 + 300).tmod 300
    · have HL := Lib.hid hlt
      have hk3' : k < 299 := by have h := HM.out; unfold md at h; omega
      go_wp2_with fail
      refine (tick_first HC.out (by omega)).mono ?_
      rintro e w7 ⟨rfl, h7, hk7⟩
      have H7 := Lib.hid h7
      have HK7 := Lib.hid (HK.out.trans hk7)
      clear h7 hk7 HC HK hlt hk
      go_wp2_with fail
      go_roundw
      case rel => exact ⟨k + 1, by go_num, by have := HL.out; omega, H7.out, HK7.out⟩
      case measure => simp [intOf]; omega
    · obtain ⟨t1, ht1⟩ : ∃ t1, t1 = 1 + k := ⟨_, rfl⟩
      rw [← ht1] at HC
      have ht3 : t1 ≤ 300 := by omega
      have ht0 : 1 ≤ t1 := by omega
      clear ht1 hk3 hk
      go_wp2_with fail
      go_loopw [14] (fun q wr => ∃ k : Nat, q = .int .i64 k ∧ (k : Int) ≤ (n.tmod 300 + 300).tmod 300 ∧ CP wr W.heap.size b1 b2 A D t1 (1 + k) ∧ Kp (fun j => W.heap.size ≤ j) W wr) (fun q _ => 300 - (intOf q).toNat)
      case atStart => exact ⟨0, rfl, LN.out, HC.out, HK.out⟩
      case round =>
        clear HC HK
        obtain ⟨k2, rfl, hk, hc, hK⟩ := hrel
        have hk3 : k2 < 300 := by have h := HN.out; unfold md at h; omega
        have HC := Lib.hid hc
        have HK := Lib.hid hK
        clear hc hK
        by_cases hlt : (k2 : Int) < (n.tmod 300 + 300).tmod 300
        · have HL := Lib.hid hlt
          have hk3' : k2 < 299 := by have h := HN.out; unfold md at h; omega
          go_wp2_with fail
          refine (tick_second HC.out (by omega)).mono ?_
          rintro e w7 ⟨rfl, h7, hk7⟩
          have H7 := Lib.hid h7
          have HK7 := Lib.hid (HK.out.trans hk7)
          clear h7 hk7 HC HK hlt hk
          go_wp2_with fail
          go_roundw
          case rel => exact ⟨k2 + 1, by go_num, by have := HL.out; omega, H7.out, HK7.out⟩
          case measure => simp [intOf]; omega
        · obtain ⟨t2, ht2⟩ : ∃ t2, t2 = 1 + k2 := ⟨_, rfl⟩
          rw [← ht2] at HC
          have hu3 : t2 ≤ 300 := by omega
          have hu0 : 1 ≤ t2 := by omega
          clear ht2 hk3 hk
          have hcp := HC.out
          obtain ⟨M, q1, q2⟩ := hcp
          have hG : IMap (wr.alloc (.map #[] 0)) wr.heap.size (ms A 0) := imap_made wr
          have p1 := (q1.other (N' := fun j => (j < wr.heap.size ∧ ¬ M j) ∨ j = wr.heap.size) (fun j h => h.imp_right (fun e => Nat.le_of_eq e.symm))).kp (S := fun _ => False) ((Kp.refl _ _).alloc (.map #[] 0)) (fun j h => h.elim)
          have p2 := (q2.other (N' := fun j => (j < wr.heap.size ∧ M j) ∨ j = wr.heap.size) (fun j h => h.imp_right (fun e => Nat.le_of_eq e.symm))).kp (S := fun _ => False) ((Kp.refl _ _).alloc (.map #[] 0)) (fun j h => h.elim)
          have hK1 := HK.out.alloc (.map #[] 0)
          have hWG : W.heap.size ≤ wr.heap.size := HK.out.size
          have hsz : (wr.alloc (.map #[] 0)).heap.size = wr.heap.size + 1 := by simp
          have P1 := Lib.hid p1
          have P2 := Lib.hid p2
          have MG := Lib.hid hG
          have HK1 := Lib.hid hK1
          clear q1 q2 hG p1 p2 hK1 HC HK
          go_upto_region 16 with fail
          generalize wr.alloc (.map #[] 0) = w7 at P1 P2 MG HK1 hsz ⊢
          generalize wr.heap.size = G at P1 P2 MG hWG hsz ⊢
          go_wp2_with fail
          refine (calls_cw P1.out).mono ?_
          rintro e w8 ⟨o1, c1, rfl, hl1, _, hk8⟩
          rw [cs_length]
          have P8 := Lib.hid (P2.out.kp hk8 (fun j h => by
            by_cases h1 : j < G
            · by_cases h2 : M j
              · exact .inl (.inl ⟨h1, h2⟩)
              · exact absurd (.inl ⟨h1, h2⟩) h.2
            · by_cases h3 : j = G
              · exact .inl (.inr h3)
              · exact .inr (.inr (by omega))))
          have M8 := Lib.hid (MG.out.kp hk8 (fun h => h.2 (.inr rfl)))
          have HK8 := Lib.hid (HK1.out.trans (hk8.mono (fun j _ h => h.1)))
          have HL1 := Lib.hid hl1
          clear hk8 hl1 P1 P2 MG HK1
          go_wp2_with fail
          go_loopw [17] (fun q wx => ∃ k : Nat, q = .int .i64 k ∧ k ≤ t1 ∧ IMap wx G (ms A k) ∧ Kp (fun j => j = G) w8 wx) (fun q _ => t1 - (intOf q).toNat)
          case atStart => exact ⟨0, rfl, Nat.zero_le _, M8.out, Kp.refl _ _⟩
          case round =>
            clear M8
            obtain ⟨k3, rfl, hk, hm, hkk⟩ := hrel
            by_cases hlt : k3 < t1
            · obtain ⟨g, rfl, hgB, hgN, _, d1⟩ := HL1.out k3 _ (cs_get A t1 k3 hlt)
              have hgG : ¬ g = G := fun e => hgN (.inr e)
              have d2 : wr.cell? ⟨g, k3 * 8 + 1, none⟩ = some (.int .i64 (A * 1000000 + ((k3 : Int) + 1))) := (hkk.cell (p := ⟨g, k3 * 8 + 1, none⟩) (World.block_lt_of_cell? _ _ d1) hgG).trans d1
              have HPUT := Lib.hid (ms_put A k3)
              obtain ⟨nu, hnu⟩ : ∃ nu, nu = A * 1000000 + ((k3 : Int) + 1) := ⟨_, rfl⟩
              rw [← hnu] at d2 HPUT
              have hkI : (k3 : Int) < (t1 : Int) := by omega
              have hk0 : (0 : Int) ≤ (k3 : Int) := by omega
              clear hnu d1 hgN hgB
              go_wp2_with (at_mapUpdate; refine Stop.mk ?_)
              unfold Stop
              refine wpList_update_i Try.underlying36 Try.underlying3 rfl _ _ _ rfl rfl hm rfl rfl ?_
              intro w9 m9 k9
              have m9 : IMap w9 G (putm (ms A k3) nu (.bool true)) := m9
              rw [HPUT.out] at m9
              have M9 := Lib.hid m9
              have HK9 := Lib.hid (hkk.trans k9)
              clear m9 k9 hm hkk d2
              go_wp2_with fail
              go_roundw
              case rel => exact ⟨k3 + 1, by go_num, by omega, M9.out, HK9.out⟩
              case measure => simp [intOf]; omega
            · obtain rfl : k3 = t1 := by omega
              have P9 := Lib.hid (P8.out.kp hkk (fun j (e : j = G) => .inl (.inr e)))
              have M9 := Lib.hid hm
              have HK9 := Lib.hid (HK8.out.trans (hkk.mono (fun j _ (e : j = G) => by omega)))
              clear hm hkk P8 HK8
              go_wp2_with fail
              refine (calls_cw P9.out).mono ?_
              rintro e w10 ⟨o2, c2, rfl, hl2, _, hk10⟩
              rw [cs_length]
              have M10 := Lib.hid (M9.out.kp hk10 (fun h => h.2 (.inr rfl)))
              have HK10 := Lib.hid (HK9.out.trans (hk10.mono (fun j _ h => h.1)))
              have HL2 := Lib.hid hl2
              clear hk10 hl2 P9 M9 HK9
              go_wp2_with fail
              go_loopw [19] (fun q wx => ∃ k : Nat, q = .int .i64 k ∧ k ≤ t2 ∧ wx = w10) (fun q _ => t2 - (intOf q).toNat)
              case atStart => exact ⟨0, rfl, Nat.zero_le _, rfl⟩
              case round =>
                obtain ⟨k4, rfl, hk4, rfl⟩ := hrel
                by_cases hlt2 : k4 < t2
                · obtain ⟨g, rfl, _, _, _, d1⟩ := HL2.out k4 _ (cs_get D t2 k4 hlt2)
                  have hget := get_ms A k3 (D * 1000000 + ((k4 : Int) + 1))
                  rw [meet A D k3 k4 (by omega) (by omega)] at hget
                  obtain ⟨nu, hnu⟩ : ∃ nu, nu = D * 1000000 + ((k4 : Int) + 1) := ⟨_, rfl⟩
                  have d9 : wr.cell? ⟨g, k4 * 8 + 1, none⟩ = some (.int .i64 (D * 1000000 + ((k4 : Int) + 1))) := d1
                  clear d1
                  rw [← hnu] at d9 hget
                  have hkI : (k4 : Int) < (t2 : Int) := by omega
                  have hk0 : (0 : Int) ≤ (k4 : Int) := by omega
                  by_cases hAD : A = D
                  · have hab : (A == D) = true := by simp [hAD]
                    rw [decide_eq_true hAD, Bool.true_and] at hget
                    by_cases hkk : k4 < k3
                    · rw [decide_eq_true hkk] at hget
                      have HGET := Lib.hid hget
                      have hkl : (k4 : Int) < (k3 : Int) := by omega
                      clear hget hnu hAD
                      go_wp2_with (at_lookup; refine Stop.mk ?_)
                      unfold Stop
                      refine wpList_lookup_i Try.underlying36 Try.underlying3 rfl _ _ rfl rfl M10.out zeroBool rfl HGET.out ?_
                      go_wp2_with fail
                      go_roundw
                      case rel => exact ⟨k4 + 1, by go_num, by omega, trivial⟩
                      case measure => simp [intOf]; omega
                    · rw [decide_eq_false hkk] at hget
                      have HGET := Lib.hid hget
                      have hkl : ¬ (k4 : Int) < (k3 : Int) := by omega
                      clear hget hnu hAD
                      go_wp2_with (at_lookup; refine Stop.mk ?_)
                      unfold Stop
                      refine wpList_lookup_i Try.underlying36 Try.underlying3 rfl _ _ rfl rfl M10.out zeroBool rfl HGET.out ?_
                      go_wp2_with fail
                      go_roundw
                      case rel => exact ⟨k4 + 1, by go_num, by omega, trivial⟩
                      case measure => simp [intOf]; omega
                  · have hab : (A == D) = false := by simpa using hAD
                    rw [decide_eq_false hAD, Bool.false_and] at hget
                    have HGET := Lib.hid hget
                    clear hget hnu hAD
                    go_wp2_with (at_lookup; refine Stop.mk ?_)
                    unfold Stop
                    refine wpList_lookup_i Try.underlying36 Try.underlying3 rfl _ _ rfl rfl M10.out zeroBool rfl HGET.out ?_
                    go_wp2_with fail
                    go_roundw
                    case rel => exact ⟨k4 + 1, by go_num, by omega, trivial⟩
                    case measure => simp [intOf]; omega
                · have hlen := run_len_i (P := Try.prog) Try.underlying36 M10.out 3
                  rw [ms_length] at hlen
                  have hp1 : (0 : Int) < (k3 : Int) := by omega
                  have hp2 : (0 : Int) < (t2 : Int) := by omega
                  have hke : ¬ (k4 : Int) < (t2 : Int) := by omega
                  go_wp2_with (first | (go_at_call 11; refine (knows_any _).mono ?_; rintro e w11 ⟨rfl, hk11⟩))
                  go_ret
                  exact ⟨rfl, (HK10.out.trans hk11.no).belowW⟩

set_option maxRecDepth 100000 in
theorem lifted (os : Os) (started : os.Started) (H : Type) (enc : TypeId × Value → H) :
    ReturnsInHanded {} Try.checked os 4 .any (Rows.clientApartSpec.pre6 enc Try.prog Try.f4 Rows.clientApartRow.domain false) (Rows.clientApartSpec.post enc Try.prog Try.f4 false true false false) := by
  refine returnsInHanded_of_change (C := Try.checked) own started (by kernel_rfl) Try.func4
    (ChangeSpec.witness6 (enc := enc) (C := Try.checked) false ⟨#[], #[.int .i64 0, .int .i64 0, .int .i64 0, .int .i64 0], []⟩ 8 (by kernel_rfl) (by kernel_rfl) (by kernel_rfl) (by kernel_rfl)) ?_
  intro W base args ds gs before hval0 hW _ _
  have hval : ∀ (j : Nat) t v, Try.f4.params[j]? = some t → args[j]? = some v → Value.okWide Try.prog W .any base t v := hval0
  have hW' := hW
  obtain ⟨p, q, hA0, hV, rfl, hfz, hnd⟩ := hW
  have hA : DataW.TrodAll enc Try.prog W 0 (fun _ => true) true Try.f4.params.toList args.toList ds p := hA0
  rw [Try.params4] at hA hval
  obtain ⟨v0, vs0, d0, ds0, p0, q0, hargs, rfl, rfl, h0, r0⟩ := trodAll_cons hA
  obtain ⟨v1, vs1, d1, ds1, p1, q1, rfl, rfl, rfl, h1, r1⟩ := trodAll_cons r0
  obtain ⟨v2, vs2, d2, ds2, p2, q2, rfl, rfl, rfl, h2, r2⟩ := trodAll_cons r1
  obtain ⟨v3, vs3, d3, ds3, p3, q3, rfl, rfl, rfl, h3, r3⟩ := trodAll_cons r2
  obtain ⟨rfl, rfl, rfl⟩ := trodAll_nil r3
  obtain rfl : args = #[v0, v1, v2, v3] := by cases args; simp_all
  obtain ⟨rfl, rfl⟩ := trodVars_none hV
  obtain ⟨a0, rfl, rfl, _, w0⟩ := open_int Try.underlying3 (hval 0 3 v0 rfl rfl) h0
  obtain ⟨a1, rfl, rfl, _, w1⟩ := open_int Try.underlying3 (hval 1 3 v1 rfl rfl) h1
  obtain ⟨a2, rfl, rfl, _, w2⟩ := open_int Try.underlying3 (hval 2 3 v2 rfl rfl) h2
  obtain ⟨a3, rfl, rfl, _, w3⟩ := open_int Try.underlying3 (hval 3 3 v3 rfl rfl) h3
  refine (walk a0 a1 a2 a3 W).mono fun e W' ⟨he, hg⟩ => ?_
  subst he
  exact ⟨_, rfl, law_post laidOut (of_decide_eq_true (by kernel_rfl)) rfl Try.underlying4 rfl ⟨rfl, rfl, rfl⟩ hW' hg⟩

theorem over : Rows.clientApartRow.holds Try.pinned (OpenSpec.ofChange Rows.clientApartSpec) :=
  OpenClaim.holds_of_wide 4 Try.f4 rfl rfl rfl rfl rfl rfl rfl ⟨rfl, rfl, rfl, rfl, rfl⟩ rfl rfl rfl rfl rfl (by kernel_rfl) Try.func4 (by kernel_rfl)
    (of_decide_eq_true (by kernel_rfl)) (by unfold Func.isWrapper; first | (rw [if_pos (by decide +kernel)]; kernel_rfl) | (rw [if_neg (by decide +kernel)]; exact ⟨rfl, rfl⟩))
    (fun os started H enc _ => lifted os started H enc)

theorem proved : Rows.ClientApartSaid :=
  over
#print axioms proved
end Go.Proofs.Ytjhefbkigmamfaa.clientApart
