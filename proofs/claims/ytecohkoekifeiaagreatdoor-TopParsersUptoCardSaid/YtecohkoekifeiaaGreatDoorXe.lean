/-
  The law of one frame; frames and a range that tells.
-/
import Derived.Test.YtecohkoekifeiaaGreatDoorXd
import Derived.Shelf.RegionOpen
import Derived.OwnWalkIn
set_option linter.all false
namespace Go.Proofs.YtecohkoekifeiaaGreatDoor
open Go.RowKit

theorem bits_or_u32_nat (a b : Nat) (ha : a < 4294967296) (hb : b < 4294967296) : bits .or .u32 (a : Int) (b : Int) = ((a ||| b : Nat) : Int) := by
  have hx : a ||| b < 2 ^ 32 := Nat.or_lt_two_pow (by omega) (by omega)
  have h1 : (BitVec.ofInt 32 (a : Int)).toNat = a := by
    rw [BitVec.ofInt_natCast, BitVec.toNat_ofNat]; exact Nat.mod_eq_of_lt (by omega)
  have h2 : (BitVec.ofInt 32 (b : Int)).toNat = b := by
    rw [BitVec.ofInt_natCast, BitVec.toNat_ofNat]; exact Nat.mod_eq_of_lt (by omega)
  show IntKind.u32.wrap ((BitVec.ofInt 32 (a : Int) ||| BitVec.ofInt 32 (b : Int)).toNat : Int) = _
  rw [BitVec.toNat_or, h1, h2, IntKind.wrap_u32]
  omega

theorem or_add (a b i : Nat) (h : a < 2 ^ i) : a ||| (b * 2 ^ i) = a + b * 2 ^ i := by
  have := Nat.shiftLeft_add_eq_or_of_lt (i := i) (b := a) h b
  rw [Nat.shiftLeft_eq] at this
  rw [Nat.or_comm, ← this, Nat.add_comm]

theorem fnum_eq {x0 x1 x2 x3 : Int} (h : Byte [x0, x1, x2, x3]) : fnum x0 x1 x2 x3 = x0 + 256 * x1 + 65536 * x2 + 16777216 * x3 := by
  have h0 := h x0 (by simp)
  have h1 := h x1 (by simp)
  have h2 := h x2 (by simp)
  have h3 := h x3 (by simp)
  obtain ⟨a, rfl⟩ : ∃ a : Nat, x0 = a := ⟨x0.toNat, by omega⟩
  obtain ⟨b, rfl⟩ : ∃ b : Nat, x1 = b := ⟨x1.toNat, by omega⟩
  obtain ⟨c, rfl⟩ : ∃ c : Nat, x2 = c := ⟨x2.toNat, by omega⟩
  obtain ⟨d, rfl⟩ : ∃ d : Nat, x3 = d := ⟨x3.toNat, by omega⟩
  have w0 : IntKind.u32.wrap (a : Int) = ((a : Nat) : Int) := by rw [IntKind.wrap_u32]; omega
  have w1 : IntKind.u32.wrap (IntKind.u32.wrap (b : Int) * 256) = ((b * 2 ^ 8 : Nat) : Int) := by rw [IntKind.wrap_u32, IntKind.wrap_u32]; omega
  have w2 : IntKind.u32.wrap (IntKind.u32.wrap (c : Int) * 65536) = ((c * 2 ^ 16 : Nat) : Int) := by rw [IntKind.wrap_u32, IntKind.wrap_u32]; omega
  have w3 : IntKind.u32.wrap (IntKind.u32.wrap (d : Int) * 16777216) = ((d * 2 ^ 24 : Nat) : Int) := by rw [IntKind.wrap_u32, IntKind.wrap_u32]; omega
  unfold fnum
  rw [w0, w1, w2, w3, bits_or_u32_nat _ _ (by omega) (by omega), or_add a b 8 (by omega), bits_or_u32_nat _ _ (by omega) (by omega), or_add _ c 16 (by omega), bits_or_u32_nat _ _ (by omega) (by omega), or_add _ d 24 (by omega)]
  omega

theorem fby_fnum {x0 x1 x2 x3 : Int} (h : Byte [x0, x1, x2, x3]) : fby (fnum x0 x1 x2 x3) = [x0, x1, x2, x3] := by
  have h0 := h x0 (by simp)
  have h1 := h x1 (by simp)
  have h2 := h x2 (by simp)
  have h3 := h x3 (by simp)
  rw [fnum_eq h]
  unfold fby
  simp only [List.cons.injEq, and_true]
  refine ⟨?_, ?_, ?_, ?_⟩ <;> omega

theorem fnum_range {x0 x1 x2 x3 : Int} (h : Byte [x0, x1, x2, x3]) : 0 ≤ fnum x0 x1 x2 x3 ∧ fnum x0 x1 x2 x3 < 4294967296 := by
  have h0 := h x0 (by simp)
  have h1 := h x1 (by simp)
  have h2 := h x2 (by simp)
  have h3 := h x3 (by simp)
  rw [fnum_eq h]
  omega

/-- Nine bytes and more, by name. -/
theorem nine {b : List Int} (h : 9 ≤ b.length) : ∃ x0 x1 x2 x3 y0 y1 y2 y3 k t, b = x0 :: x1 :: x2 :: x3 :: y0 :: y1 :: y2 :: y3 :: k :: t := by
  match b, h with
  | x0 :: x1 :: x2 :: x3 :: y0 :: y1 :: y2 :: y3 :: k :: t, _ => exact ⟨_, _, _, _, _, _, _, _, _, _, rfl⟩

/-- The law of one frame: of the bytes that were looked at. -/
theorem frm_read {x0 x1 x2 x3 y0 y1 y2 y3 k : Int} {t : List Int} (hB : Byte (x0 :: x1 :: x2 :: x3 :: y0 :: y1 :: y2 :: y3 :: k :: t)) {m : Nat}
    (hm : fnum x0 x1 x2 x3 = m) (hl : m ≤ t.length) (hc : crcF (k :: t.take m) = fnum y0 y1 y2 y3) :
    x0 :: x1 :: x2 :: x3 :: y0 :: y1 :: y2 :: y3 :: k :: t = frm k.toNat (t.take m) ++ t.drop m := by
  have hk := hB k (by simp)
  have e1 : ((k.toNat : Nat) : Int) = k := by omega
  have e2 : (t.take m).length = m := by rw [List.length_take]; omega
  have f1 := fby_fnum (x0 := x0) (x1 := x1) (x2 := x2) (x3 := x3) (fun x hx => hB x (by simp at hx ⊢; rcases hx with rfl | rfl | rfl | rfl <;> simp))
  have f2 := fby_fnum (x0 := y0) (x1 := y1) (x2 := y2) (x3 := y3) (fun x hx => hB x (by simp at hx ⊢; rcases hx with rfl | rfl | rfl | rfl <;> simp))
  unfold frm
  rw [e1, e2, ← hm, hc]
  simp only [List.flatMap_cons, List.flatMap_nil, f1, f2]
  simp
end Go.Proofs.YtecohkoekifeiaaGreatDoor
namespace Go.Proofs.YtecohkoekifeiaaGreatDoor
open Go.RowKit

/-- What the iterator owes: 'R' of each element as it is handed over; 'S' of all; it stores into 'p' and lays blocks, no more. -/
def Told {α : Type} (F : Fence) (n : Nat) (P : Program) (g : Nat) (lb : Array Value) (encs : α → Array Value) (Kc : World → World → Prop) (R : α → World → Prop) (p : Addr) (S : List α → Prop) (N : Nat) (w : World) : Prop :=
  ∀ (l : Nat) (J : List α → World → Prop) (W : World), Below w.heap.size w W → AbidesFrom W.heap.size J → (∀ s A v, J s A → J s (A.setCell p v)) →
    (∀ pre x W1, J pre W1 → R x W1 → pre.length < N → YieldAt F (n - 1) P l (encs x) W1 fun e W2 => e = .returned (.bool true) ∧ J (pre ++ [x]) W2 ∧ Kc W1 W2) →
    J [] W → CallsIn F n P g (#[.func (.yield l) #[] #[]] ++ lb) W fun e W2 => (∃ v, e = .returned v) ∧ ∃ xs, S xs ∧ J xs W2

/-- How the body is left: off its end. -/
def tellPost {α : Type} (B : Nat) (Kc : World → World → Prop) (I : List α → World → Prop) (xs : List α) (W : World) : Exit → Act → World → Prop
  | .normal, _, W2 => KeepsFrom B W W2 ∧ Kc W W2 ∧ I xs W2
  | _, _, _ => False

theorem setCell_block {A : World} {p : Addr} {v : Value} {k : Nat} (h : k ≠ p.block) : (A.setCell p v).heap[k]? = A.heap[k]? := Below.heap_setCell A p v k h

theorem rangeFunc_told {F : Fence} {n : Nat} {P : Program} {α : Type} {g : Operand} {ps : Array Tmp} {assign body : Code} {Q : Exit → Act → World → Prop} {a : Act} {w : World}
    (hro : F.round = none) (h1 : 1 ≤ n) {gf : Nat} {lb : Array Value} (hg : a.eval g = .func (.func gf) #[] lb) (hFg : F.fn gf) (eg : ∀ args w, (callFunc gf args).run P w = .ok (.enter gf args) w)
    {encs : α → Array Value} {Kc : World → World → Prop} {R : α → World → Prop} {p : Addr} {S : List α → Prop} {N : Nat} (hp : p.block < w.heap.size) (hseq : Told F (n - 1) P gf lb encs Kc R p S N w)
    (hKt : ∀ {A B C : World}, Kc A B → Kc B C → Kc A C) (hKb : ∀ (W : World) (l : Nat) (o o' : Obj), w.heap.size ≤ l → W.heap[l]? = some o → o.isCells = false → o.isWalk = false → Kc W (W.putObj l o'))
    (hps : ∀ x, (encs x).size = ps.size)
    (I : List α → World → Prop) (hI : OwnFrom w.heap.size I) (hIp : ∀ s A v, I s A → I s (A.setCell p v)) (h0 : I [] w) (T : α → Act → World → Prop)
    (hT : ∀ (x : α) (a : Act) (W : World) (l : Nat) (o o' : Obj), w.heap.size ≤ l → W.heap[l]? = some o → o.isCells = false → T x a W → T x a (W.putObj l o'))
    (hassign : ∀ (l : Nat) (pre : List α) (x : α) (W : World) (K : Act → World → Prop), I pre W → R x W →
      (∀ a1 W1, KeepsFrom w.heap.size W W1 → Kc W W1 → I pre W1 → T x a1 W1 → K a1 W1) →
      assign.wpIn (F.inRound l) (n - 1 - 1) P (Exit.then K (fun _ _ _ => False)) { tmps := (ps.zip (encs x)).foldl (fun t (p, v) => t.setIfInBounds p v) a.tmps, defers := [] } W)
    (hbody : ∀ (l : Nat) (pre : List α) (x : α) (a1 : Act) (W : World), I pre W → T x a1 W → pre.length < N → body.wpIn (F.inRound l) (n - 1 - 1) P (tellPost w.heap.size Kc I (pre ++ [x]) W) a1 W)
    (hdone : ∀ (D : Nat) (xs : List α) (W : World), w.heap.size ≤ D → S xs → I xs W → W.heap[D]? = some (.deferred (some [])) → Q .normal { a with defers := { target := .collected D, args := #[] } :: a.defers } W) :
    (Code.rangeFunc g ps assign body).wpIn F n P Q a w := by
  refine wpIn_rangeFunc fun fn hfn => ?_
  rw [hro]
  -- the loop's record, by its state
  obtain ⟨lr, hlr⟩ : ∃ lr : LoopState → Option Code → Loop, lr = fun s j => { state := s, pending := j, fn, tmps := a.tmps, params := ps, assign, body, defers := w.heap.size } := ⟨_, rfl⟩
  obtain ⟨V, hV⟩ : ∃ V, V = (w.alloc (.deferred (some []))).alloc (.loop (lr .ready none)) := ⟨_, rfl⟩
  have vL : V.heap[w.heap.size + 1]? = some (.loop (lr .ready none)) := by
    rw [hV]
    have := World.alloc_heap_new (w.alloc (.deferred (some []))) (.loop (lr .ready none))
    rwa [World.size_alloc] at this
  have vD : V.heap[w.heap.size]? = some (.deferred (some [])) := by
    rw [hV]
    exact (Below.heap_alloc _ _ _ (by simp)).trans (World.alloc_heap_new w _)
  have vI : I [] V := by
    rw [hV]
    exact hI.alloc _ (hI.alloc _ h0)
  have vB : Below w.heap.size w V := by
    rw [hV]
    exact ((Below.refl _ w).alloc (Nat.le_refl _) _).alloc (by simp) _
  refine ⟨w.heap.size + 1, [{ target := .collected w.heap.size, args := #[] }], V, { target := .fn (.func gf) lb, args := #[.func (.yield (w.heap.size + 1)) #[] #[]] }, V, gf,
    #[.func (.yield (w.heap.size + 1)) #[] #[]] ++ lb, V, ?_, ?_, ?_, ?_, fun _ => h1, ?_⟩
  · rw [hV, hlr]
    exact run_enterLoop_outer _ _ _ _ _
  · simp only [resolve, hg]
    simp [go_sem]
  · intro f2 hf2
    simp [Target.leads] at hf2
    subst hf2
    exact hFg
  · simp [invoke, go_sem, eg]
  · have far : ∀ {A B : World} {row : Option Nat}, (∀ r, row = some r → V.heap.size ≤ r ∧ ∃ o : Obj, A.heap[r]? = some o ∧ o.isWalk = true) → ∀ r, row = some r → w.heap.size ≤ r ∧ ∃ o : Obj, A.heap[r]? = some o ∧ o.isCells = false := by
      intro A B row hr r e
      obtain ⟨hB, o, ho, hw⟩ := hr r e
      have := vB.size
      exact ⟨by omega, o, ho, Obj.not_cells_of_walk hw⟩
    refine (hseq (w.heap.size + 1) (fun pre W => I pre W ∧ W.heap[w.heap.size + 1]? = some (.loop (lr .ready none)) ∧ W.heap[w.heap.size]? = some (.deferred (some []))) V vB ?ab ?st ?ro ⟨vI, vL, vD⟩).mono ?be
    case ab =>
      intro s A B row hs hgr hr
      exact ⟨hI s A B row hs.1 hgr (far (B := B) hr), (grownBy_keeps hgr (fun r e => (hr r e).2) hs.2.1 rfl).trans hs.2.1, (grownBy_keeps hgr (fun r e => (hr r e).2) hs.2.2 rfl).trans hs.2.2⟩
    case st =>
      intro s A v hs
      exact ⟨hIp s A v hs.1, (setCell_block (by omega)).trans hs.2.1, (setCell_block (by omega)).trans hs.2.2⟩
    case ro =>
      rintro pre x W0 ⟨hi0, hl0, hd0⟩ hRx hN
      have hy := run_yield (P := P) (args := encs x) hl0 (by rw [hlr]; exact hps x)
      rw [hlr] at hy
      refine ⟨fn, _, assign, body, hy, roundIn_of_wpIn hfn (hassign _ pre x W0 _ hi0 hRx fun a1 W hkf0 hkc0 hi hTx => ?_)⟩
      have hl := hkf0.same _ _ (by omega) hl0 rfl
      have hd := hkf0.same _ _ (Nat.le_refl _) hd0 rfl
      have hlt : w.heap.size + 1 < W.heap.size := (Array.getElem?_eq_some_iff.1 hl).1
      refine ⟨_, run_beginRound hl (by rw [hlr]), ?_⟩
      obtain ⟨U, hU⟩ : ∃ U, U = W.putObj (w.heap.size + 1) (.loop { lr .ready none with state := .busy }) := ⟨_, rfl⟩
      rw [← hU]
      have uL : U.heap[w.heap.size + 1]? = some (.loop { lr .ready none with state := .busy }) := by
        rw [hU]
        exact World.putObj_heap_same hlt
      have uD : U.heap[w.heap.size]? = some (.deferred (some [])) := by
        rw [hU]
        exact (World.putObj_heap_other (by omega)).trans hd
      have uK : Kc W0 U := by
        rw [hU]
        exact hKt hkc0 (hKb _ _ _ _ (by omega) hl rfl rfl)
      have uI : I pre U := by
        rw [hU]
        exact hI.putObj _ hi (by omega) hl rfl
      have uR : T x a1 U := by
        rw [hU]
        exact hT _ _ _ _ _ _ (by omega) hl rfl hTx
      refine wpIn_mono (hbody _ pre x a1 U uI uR hN) ?_
      intro e a3 X hx
      cases e with
      | normal =>
        obtain ⟨hkf, hkc, hix⟩ := hx
        have xL := hkf.same _ _ (by omega) uL rfl
        have xD := hkf.same _ _ (Nat.le_refl _) uD rfl
        have hend := run_endRound (P := P) none xL
        refine ⟨_, _, hend, rfl, ⟨hI.putObj _ hix (by omega) xL rfl, ?_, (World.putObj_heap_other (by omega)).trans xD⟩, hKt (hKt uK hkc) (hKb _ _ _ _ (by omega) xL rfl rfl)⟩
        rw [World.putObj_heap_same (Array.getElem?_eq_some_iff.1 xL).1, hlr]
        rfl
      | ret => exact hx.elim
      | exit id => exact hx.elim
      | goto t => exact hx.elim
      | panic c => exact hx.elim
      | outgrown => exact hx.elim
    case be =>
      rintro e W2 ⟨⟨v, rfl⟩, xs, hS, hi, hl, hd⟩
      have hend := run_endLoop (P := P) hl (by rw [hlr]; simp)
      rw [hlr] at hend
      exact ⟨none, _, hend, hdone _ xs _ (Nat.le_refl _) hS (hI.putObj _ hi (by omega) hl rfl) ((World.putObj_heap_other (by omega)).trans hd)⟩
end Go.Proofs.YtecohkoekifeiaaGreatDoor
namespace Go.Proofs.YtecohkoekifeiaaGreatDoor
open Go.RowKit Go.Shelf
set_option linter.unusedVariables false
set_option linter.unusedSimpArgs false
attribute [local go_sem] Oper.semAt_some

/-- A frame that comes: where it ends, its kind, its bytes and where these lie. -/
structure Fi where
  at_ : Nat
  k : Nat
  d : List Int
  ad : Option Addr
  cap : Nat
def Fi.frame (x : Fi) : Value := .agg #[.int .i64 x.k, .slice x.ad x.d.length x.cap]
def Fi.vals (x : Fi) : Array Value := #[.int .i64 x.at_, x.frame]
def Fi.by (x : Fi) : List Int := frm x.k x.d
def Fis.by (l : List Fi) : List Int := l.flatMap Fi.by
/-- What holds of it when it comes. -/
def Fi.here (B : Nat) (x : Fi) (W : World) : Prop := Row W x.ad (bytes x.d) ∧ ∀ g, blockOf x.ad = some g → B ≤ g ∧ g < W.heap.size
/-- What holds of all. -/
def Fis.all (b : List Int) (l : List Fi) : Prop := (∃ r, b = Fis.by l ++ r) ∧ (∀ x ∈ l, Byte x.d ∧ x.k < 256 ∧ x.d.length ≤ 65536) ∧ ∀ l' x, l = l' ++ [x] → x.at_ = (Fis.by l).length

theorem frm_len (k : Nat) (p : List Int) : (frm k p).length = 9 + p.length := by
  simp [frm, fby]
  omega

theorem Row.sub {w : World} {g off : Nat} {A b : List Int} (h : Row w (some ⟨g, off, none⟩) (bytes (A ++ b))) {m : Nat} (hm : A.length = m) : Row w (some ⟨g, off + m, none⟩) (bytes b) := by
  intro i v hv
  obtain ⟨g', off', e, hc⟩ := h (m + i) v (by
    simp only [bytes, List.map_append] at hv ⊢
    rw [List.getElem?_append_right (by simp; omega)]
    simp only [List.length_map]
    rw [show m + i - A.length = i by omega]
    exact hv)
  cases e
  exact ⟨g, off + m, rfl, by rw [Nat.add_assoc]; exact hc⟩
theorem Row.cut {w : World} {a : Option Addr} {A b : List Int} (h : Row w a (bytes (A ++ b))) : Row w a (bytes A) := by
  intro i v hv
  refine h i v ?_
  simp only [bytes, List.map_append] at hv ⊢
  exact List.getElem?_append_left (List.getElem?_eq_some_iff.1 hv).1 ▸ hv

theorem cast9 (A m : Nat) : (A : Int) + (9 + (m : Int)) = ((A + (9 + m) : Nat) : Int) := by omega
theorem meas9 {B A m : Nat} (h : A + (9 + m) ≤ B) : B - (intOf (.int .i64 ((A : Int) + (9 + (m : Int))))).toNat < B - (intOf (.int .i64 (A : Int))).toNat := by
  show B - ((A : Int) + (9 + (m : Int))).toNat < B - (A : Int).toNat
  omega

/-- A frame more has come. -/
theorem frames_next {b : List Int} {pre : List Fi} {x : Fi} {x0 x1 x2 x3 y0 y1 y2 y3 k : Int} {t : List Int} {m : Nat} {o : Option Addr} {co : Nat}
    (hb : b = Fis.by pre ++ (x0 :: x1 :: x2 :: x3 :: y0 :: y1 :: y2 :: y3 :: k :: t)) (hall : Fis.all b pre) (h9 : 9 * pre.length ≤ (Fis.by pre).length) (hB : Byte (x0 :: x1 :: x2 :: x3 :: y0 :: y1 :: y2 :: y3 :: k :: t))
    (hm : fnum x0 x1 x2 x3 = m) (hl : m ≤ t.length) (hc : crcF (k :: t.take m) = fnum y0 y1 y2 y3) (h6 : m ≤ 65536) (hx : x = ⟨(Fis.by pre).length + (9 + m), k.toNat, t.take m, o, co⟩) :
    (Fis.by (pre ++ [x])).length = (Fis.by pre).length + (9 + m) ∧ b = Fis.by (pre ++ [x]) ++ t.drop m ∧ Fis.all b (pre ++ [x]) ∧ 9 * (pre ++ [x]).length ≤ (Fis.by (pre ++ [x])).length ∧
      (t.drop m).length = (x0 :: x1 :: x2 :: x3 :: y0 :: y1 :: y2 :: y3 :: k :: t).length - (9 + m) := by
  have e1 : Fis.by (pre ++ [x]) = Fis.by pre ++ frm k.toNat (t.take m) := by rw [hx]; simp [Fis.by, Fi.by]
  have e2 : (t.take m).length = m := by rw [List.length_take]; omega
  have e3 : (Fis.by (pre ++ [x])).length = (Fis.by pre).length + (9 + m) := by rw [e1, List.length_append, frm_len, e2]
  have e4 : b = Fis.by (pre ++ [x]) ++ t.drop m := by rw [e1, List.append_assoc, ← frm_read hB hm hl hc]; exact hb
  refine ⟨e3, e4, ⟨⟨_, e4⟩, ?_, ?_⟩, ?_, ?_⟩
  · intro y hy
    rw [List.mem_append] at hy
    rcases hy with hy | hy
    · exact hall.2.1 y hy
    · simp only [List.mem_cons, List.not_mem_nil, or_false] at hy
      subst hy
      subst hx
      refine ⟨fun c hc => hB c ?_, ?_, ?_⟩
      · have := List.mem_of_mem_take hc
        simp [this]
      · have := hB k (by simp)
        show k.toNat < 256
        omega
      · show (t.take m).length ≤ 65536
        omega
  · intro l' y hy
    have := List.append_inj' hy rfl
    simp only [List.cons.injEq, and_true] at this
    rw [← this.2, e3, hx]
  · rw [e3, List.length_append, List.length_cons, List.length_nil]
    omega
  · rw [List.length_drop]
    simp only [List.length_cons]
    omega
/-- The rest lies where it lay. -/
theorem rest_row {u w : World} {g off rl m : Nat} {x0 x1 x2 x3 y0 y1 y2 y3 k : Int} {t : List Int} (h : Row u (some ⟨g, off, none⟩) (bytes (x0 :: x1 :: x2 :: x3 :: y0 :: y1 :: y2 :: y3 :: k :: t)))
    (hl : (x0 :: x1 :: x2 :: x3 :: y0 :: y1 :: y2 :: y3 :: k :: t).length = rl) (hd : (t.drop m).length = rl - (9 + m)) (hg : w.heap[g]? = u.heap[g]?) : Row w (some ⟨g, off + (9 + m), none⟩) (bytes (t.drop m)) := by
  by_cases hm : m ≤ t.length
  · have e : x0 :: x1 :: x2 :: x3 :: y0 :: y1 :: y2 :: y3 :: k :: t = (x0 :: x1 :: x2 :: x3 :: y0 :: y1 :: y2 :: y3 :: k :: t.take m) ++ t.drop m := by simp
    rw [e] at h
    have h2 := h.sub (m := 9 + m) (by simp only [List.length_cons, List.length_take]; omega)
    intro i v hv
    obtain ⟨g', off', e', hc⟩ := h2 i v hv
    cases e'
    exact ⟨_, _, rfl, (World.cell?_of_block (w := u) (a := ⟨g, off + (9 + m) + i, none⟩) hg).trans hc⟩
  · rw [List.drop_eq_nil_of_le (by omega)]
    exact Row.nil _ _

theorem Kp.grown {w w' : World} (h : Kp (fun _ => False) w w') : w.grownBy w' none := ⟨h.os, h.tape, h.output, h.size, fun k hk _ => h.block k hk (fun h => h)⟩

set_option maxRecDepth 100000 in
set_option maxHeartbeats 4000000 in
theorem frames1_in (n : Nat) (hn : 1 ≤ n) (l Bs B g : Nat) (b : List Int) (hB : Byte b) (hlen : b.length ≤ 140737488351232) (J : List Fi → World → Prop) (W : World) (hW : W.heap.size = B)
    (hJ : AbidesFrom W.heap.size J) (hJs : ∀ s A v, J s A → J s (A.setCell ⟨Bs, 0, none⟩ v))
    (hY : ∀ pre x W1, J pre W1 → Fi.here B x W1 → pre.length < b.length → YieldAt Fence.wide (n - 1) Tryz.prog l x.vals W1 fun e W2 => e = .returned (.bool true) ∧ J (pre ++ [x]) W2 ∧ KB g Bs W1 W2 ∧ W1.heap.size ≤ W2.heap.size)
    (hne : g ≠ Bs) (off : Nat) (a : Option Addr) (c : Nat) (hbs : W.heap[Bs]? = some (.cells #[.slice a b.length c] 22 (0, 0))) (hr : Row W a (bytes b)) (ha : b ≠ [] → a = some ⟨g, off, none⟩) (hcap : b.length ≤ c) (h0 : J [] W) :
    CallsIn Fence.wide n Tryz.prog 62 #[.func (.yield l) #[] #[], .pointer (some ⟨Bs, 0, none⟩)] W fun e W2 => (∃ v, e = .returned v) ∧ ∃ xs, Fis.all b xs ∧ J xs W2 := by
  refine callsIn_of_wp Tryz.func62 rfl trivial ?_ rfl
  simp only [Tryz.ntmps62, List.size_toArray, List.length_cons, List.length_nil, Nat.reduceAdd, Nat.reduceSub, Array.replicate_succ, Array.replicate_zero, List.push_toArray, List.append_toArray, List.nil_append, List.cons_append]
  gi_wp2
  gi_loopw [3] (fun i wr => ∃ (pre : List Fi) (r : List Int) (ar : Option Addr) (cr : Nat), i = .int .i64 (Fis.by pre).length ∧ b = Fis.by pre ++ r ∧ Fis.all b pre ∧ 9 * pre.length ≤ (Fis.by pre).length ∧
      wr.heap[Bs]? = some (.cells #[.slice ar r.length cr] 22 (0, 0)) ∧ Row wr ar (bytes r) ∧ (r ≠ [] → ∃ off, ar = some ⟨g, off, none⟩) ∧ r.length ≤ cr ∧ W.heap.size ≤ wr.heap.size ∧ J pre wr)
    (fun i _ => b.length - (intOf i).toNat)
  case atStart =>
    exact ⟨[], b, a, c, rfl, rfl, ⟨⟨b, rfl⟩, (fun x hx => nomatch hx), (fun l' x h => by simp at h)⟩, by simp [Fis.by], hbs, hr, fun h => ⟨off, ha h⟩, hcap, Nat.le_refl _, h0⟩
  case round =>
    obtain ⟨pre, r, ar, cr, rfl, hb, hall, h9, hbw, hrow, har, hcr, hsz, hjw⟩ := hrel
    have c0 := cell_of hbw 0 (v := .slice ar r.length cr) rfl
    by_cases hge : 9 ≤ r.length
    · obtain ⟨x0, x1, x2, x3, y0, y1, y2, y3, k, t, rfl⟩ := nine hge
      have hgI : (9 : Int) ≤ ((x0 :: x1 :: x2 :: x3 :: y0 :: y1 :: y2 :: y3 :: k :: t).length : Int) := by omega
      obtain ⟨off, rfl⟩ := har (by simp)
      have hBr : Byte (x0 :: x1 :: x2 :: x3 :: y0 :: y1 :: y2 :: y3 :: k :: t) := fun x hx => hB x (by rw [hb]; exact List.mem_append_right _ hx)
      have HR := Lib.hid hBr
      have HN := Lib.hid (fnumber_any hrow hBr cr)
      have hl9 : (y0 :: y1 :: y2 :: y3 :: k :: t).length + 4 = (x0 :: x1 :: x2 :: x3 :: y0 :: y1 :: y2 :: y3 :: k :: t).length := rfl
      rw [hl9] at HN
      generalize hrl : (x0 :: x1 :: x2 :: x3 :: y0 :: y1 :: y2 :: y3 :: k :: t).length = rl at HN hgI hbw hcr c0
      have HRL := Lib.hid hrl
      have HB := Lib.hid hb
      have HROW := Lib.hid hrow
      have HALL := Lib.hid hall
      clear hrl hl9 hb hrow hall hge hBr har
      gi_wp2_with (first | (refine ⟨trivial, ?_⟩; gi_at_call 63; refine Stop.mk ?_) | (gi_at_call 63; refine Stop.mk ?_))
      unfold Stop
      refine (callsIn_wide.2 HN.out).mono ?_
      rintro e w1 ⟨rfl, hk1⟩
      have hj1 : J pre w1 := hJ pre wr w1 none hjw hk1.grown (fun r e => by cases e)
      have hb1 := hk1.heap hbw (fun h => h)
      have hrow1 := HROW.out.no hk1
      have c1 := cell_of hb1 0 (v := .slice (some ⟨g, off, none⟩) rl cr) rfl
      have hmr := fnum_range (x0 := x0) (x1 := x1) (x2 := x2) (x3 := x3) (fun x hx => HR.out x (by simp at hx ⊢; rcases hx with rfl | rfl | rfl | rfl <;> simp))
      obtain ⟨m, hm⟩ : ∃ m : Nat, fnum x0 x1 x2 x3 = m := ⟨(fnum x0 x1 x2 x3).toNat, by omega⟩
      rw [hm] at hmr ⊢
      have HM := Lib.hid hm
      have HJ1 := Lib.hid hj1
      have HRW1 := Lib.hid hrow1
      have HK1 := Lib.hid hk1
      clear hm hj1 hrow1 hk1 HN HROW hjw c0 hbw
      have hend : ∀ u, b = Fis.by pre ++ u → True := fun _ _ => trivial
      by_cases h6 : (65536 : Int) < (m : Int)
      · gi_wp2
        refine bodyPost_ret (results_none rfl _ _ _) rfl ?_
        exact ⟨⟨_, rfl⟩, pre, HALL.out, HJ1.out⟩
      · by_cases h7 : (rl : Int) - 9 < (m : Int)
        · gi_wp2
          refine bodyPost_ret (results_none rfl _ _ _) rfl ?_
          exact ⟨⟨_, rfl⟩, pre, HALL.out, HJ1.out⟩
        · have hcI : (9 : Int) + m ≤ (cr : Int) := by omega
          have hrlm : rl ≤ 140737488351232 := by
            have h1 := congrArg List.length HB.out
            have h2 := HRL.out
            rw [List.length_append, h2] at h1
            omega
          have hwr : wrap64 ((rl : Int) - 9) = (rl : Int) - 9 := by unfold wrap64; omega
          have h7' : ¬ ((rl : Int) - 9 < (m : Int)) := h7
          have e8 : 9 + m - 8 = m + 1 := by omega
          have hin : Row w1.drew (some ⟨g, off + 8, none⟩) (bytes (k :: t.take m)) := by
            have h1 := (HRW1.out.sub (A := [x0, x1, x2, x3, y0, y1, y2, y3]) (b := k :: t) rfl).no ((Kp.refl _ _).drew)
            have h2 : k :: t = (k :: t.take m) ++ t.drop m := by simp
            rw [h2] at h1
            exact h1.cut
          have hlt : (k :: t.take m).length = m + 1 := by
            have h2 := HRL.out
            simp only [List.length_cons] at h2
            rw [List.length_cons, List.length_take]
            omega
          have hHC := crc_any hin (fun x hx => HR.out x (by
            simp only [List.mem_cons] at hx ⊢
            rcases hx with rfl | hx
            · simp
            · have := List.mem_of_mem_take hx
              simp [this])) (by omega) (cr - 8)
          rw [hlt] at hHC
          generalize hcv : crcF (k :: t.take m) = cv at hHC
          have HCV := Lib.hid hcv
          have HC := Lib.hid hHC
          have hnr : Row w1.drew (some ⟨g, off + 4, none⟩) (bytes (y0 :: y1 :: y2 :: y3 :: k :: t)) := (HRW1.out.sub (A := [x0, x1, x2, x3]) rfl).no ((Kp.refl _ _).drew)
          have hHN := fnumber_any hnr (fun x hx => HR.out x (by
            simp only [List.mem_cons] at hx ⊢
            simp [hx])) (cr - 4)
          have hl4 : (k :: t).length + 4 = rl - 4 := by
            have h2 := HRL.out
            simp only [List.length_cons] at h2 ⊢
            omega
          rw [hl4] at hHN
          generalize hfv : fnum y0 y1 y2 y3 = fv at hHN
          have HFV := Lib.hid hfv
          have HN2 := Lib.hid hHN
          have c1d : w1.drew.cell? ⟨Bs, 0, none⟩ = some (.slice (some ⟨g, off, none⟩) rl cr) := c1
          have hcr4 : ¬ ((cr : Int) ≤ 4) := by omega
          have hcr4' : (4 : Int) ≤ (cr : Int) := by omega
          have hrl4 : (4 : Int) ≤ (rl : Int) := by omega
          have hbl := congrArg List.length HB.out
          rw [List.length_append, HRL.out] at hbl
          have hpn : pre.length < b.length := by omega
          have HPN := Lib.hid hpn
          have hab : (Fis.by pre).length + (9 + m) ≤ b.length := by omega
          have HAB := Lib.hid hab
          have hdl : (t.take m).length = m := by rw [List.length_cons] at hlt; omega
          have HDL := Lib.hid hdl
          have htl : m ≤ t.length := by rw [List.length_take] at hdl; omega
          have HTL := Lib.hid htl
          have hm6 : m ≤ 65536 := by omega
          have HM6 := Lib.hid hm6
          have hk0 : ((k.toNat : Nat) : Int) = k := by
            have := HR.out k (by simp)
            omega
          have HK0 := Lib.hid hk0
          have hwk : IntKind.i64.wrap k = k := by
            have := HR.out k (by simp)
            rw [IntKind.wrap_i64]
            omega
          have hat : wrap64 (((Fis.by pre).length : Int) + (9 + (m : Int))) = ((Fis.by pre).length : Int) + (9 + (m : Int)) := by unfold wrap64; omega
          clear hab hm6 htl hpn hbl hdl hk0 hcv hfv hHC hHN hin hnr hlt hl4
          gi_wp2_with fail
          have hne4 : ¬ (cr = 4) := by omega
          refine wpIn_region_any (by kernel_rfl) ?_
          show wpAnyIn _ _ _ _ _ _ _ _ _ w1.drew
          refine wpAnyIn_take (i := 0) (v := ?_) rfl rfl (by kernel_rfl) (by kernel_rfl) (by kernel_rfl) (fun _ _ _ h => h) ⟨Or.inl ⟨by rfl, ?_⟩, fun _ => rfl⟩ ?_
          rotate_left
          · intro w
            go_simp
            try with_reducible rfl
          try simp only [Act.put, List.getElem_toArray, List.getElem_cons_zero, List.getElem_cons_succ, List.setIfInBounds_toArray, List.set_cons_zero, List.set_cons_succ]
          refine wpAnyIn_ready (rs := [1, 2]) (by kernel_rfl) (by simp) ?_
          refine AllReadyIn.cons rfl (fun K hK => ?_) (AllReadyIn.cons rfl (fun K hK => ?_) AllReadyIn.nil)
          focus
            go_simp
            refine ⟨trivial, (callsIn_wide.2 HC.out).mono ?_⟩
            rintro e w2 ⟨rfl, rfl⟩
            refine hK _ _ ?_
            clear hK K
            try simp only [Act.put, List.getElem_toArray, List.getElem_cons_zero, List.getElem_cons_succ, List.setIfInBounds_toArray, List.set_cons_zero, List.set_cons_succ]
            refine wpAnyIn_ready (rs := [2]) (by kernel_rfl) (by simp) ?_
            refine AllReadyIn.cons rfl (fun K hK => ?_) AllReadyIn.nil
            go_simp
            refine hK _ _ ?_
            clear hK K
            try simp only [Act.put, List.getElem_toArray, List.getElem_cons_zero, List.getElem_cons_succ, List.setIfInBounds_toArray, List.set_cons_zero, List.set_cons_succ]
            refine wpAnyIn_take (i := 3) (v := ?_) rfl rfl (by kernel_rfl) (by kernel_rfl) (by kernel_rfl) (fun _ _ _ h => h) ⟨Or.inl ⟨by rfl, ?_⟩, fun _ => rfl⟩ ?_
            rotate_left
            · intro w
              go_simp
              try with_reducible rfl
            try simp only [Act.put, List.getElem_toArray, List.getElem_cons_zero, List.getElem_cons_succ, List.setIfInBounds_toArray, List.set_cons_zero, List.set_cons_succ]
            refine wpAnyIn_ready (rs := [4]) (by kernel_rfl) (by simp) ?_
            refine AllReadyIn.cons rfl (fun K hK => ?_) AllReadyIn.nil
            go_simp
            refine ⟨trivial, (callsIn_wide.2 HN2.out).mono ?_⟩
            rintro e w2 ⟨rfl, hk2⟩
            refine hK _ _ ?_
            clear hK K
            try simp only [Act.put, List.getElem_toArray, List.getElem_cons_zero, List.getElem_cons_succ, List.setIfInBounds_toArray, List.set_cons_zero, List.set_cons_succ]
            refine wpAnyIn_take (i := 5) (v := ?_) rfl rfl (by kernel_rfl) (by kernel_rfl) (by kernel_rfl) (fun _ _ _ h => h) ⟨Or.inl ⟨by rfl, ?_⟩, fun _ => rfl⟩ ?_
            rotate_left
            · intro w
              go_simp
              try with_reducible rfl
            try simp only [Act.put, List.getElem_toArray, List.getElem_cons_zero, List.getElem_cons_succ, List.setIfInBounds_toArray, List.set_cons_zero, List.set_cons_succ]
            refine wpAnyIn_done (by kernel_rfl) ?_ _
          rotate_left
          focus
            go_simp
            refine hK _ _ ?_
            clear hK K
            try simp only [Act.put, List.getElem_toArray, List.getElem_cons_zero, List.getElem_cons_succ, List.setIfInBounds_toArray, List.set_cons_zero, List.set_cons_succ]
            refine wpAnyIn_take (i := 3) (v := ?_) rfl rfl (by kernel_rfl) (by kernel_rfl) (by kernel_rfl) (fun _ _ _ h => h) ⟨Or.inl ⟨by rfl, ?_⟩, fun _ => rfl⟩ ?_
            rotate_left
            · intro w
              go_simp
              try with_reducible rfl
            try simp only [Act.put, List.getElem_toArray, List.getElem_cons_zero, List.getElem_cons_succ, List.setIfInBounds_toArray, List.set_cons_zero, List.set_cons_succ]
            refine wpAnyIn_ready (rs := [1]) (by kernel_rfl) (by simp) ?_
            refine AllReadyIn.cons rfl (fun K hK => ?_) AllReadyIn.nil
            go_simp
            refine ⟨trivial, (callsIn_wide.2 HC.out).mono ?_⟩
            rintro e w2 ⟨rfl, rfl⟩
            refine hK _ _ ?_
            clear hK K
            try simp only [Act.put, List.getElem_toArray, List.getElem_cons_zero, List.getElem_cons_succ, List.setIfInBounds_toArray, List.set_cons_zero, List.set_cons_succ]
            refine wpAnyIn_ready (rs := [4]) (by kernel_rfl) (by simp) ?_
            refine AllReadyIn.cons rfl (fun K hK => ?_) AllReadyIn.nil
            go_simp
            refine ⟨trivial, (callsIn_wide.2 HN2.out).mono ?_⟩
            rintro e w2 ⟨rfl, hk2⟩
            refine hK _ _ ?_
            clear hK K
            try simp only [Act.put, List.getElem_toArray, List.getElem_cons_zero, List.getElem_cons_succ, List.setIfInBounds_toArray, List.set_cons_zero, List.set_cons_succ]
            refine wpAnyIn_take (i := 5) (v := ?_) rfl rfl (by kernel_rfl) (by kernel_rfl) (by kernel_rfl) (fun _ _ _ h => h) ⟨Or.inl ⟨by rfl, ?_⟩, fun _ => rfl⟩ ?_
            rotate_left
            · intro w
              go_simp
              try with_reducible rfl
            try simp only [Act.put, List.getElem_toArray, List.getElem_cons_zero, List.getElem_cons_succ, List.setIfInBounds_toArray, List.set_cons_zero, List.set_cons_succ]
            refine wpAnyIn_done (by kernel_rfl) ?_ _
          all_goals
            have hj2 : J pre w2 := hJ pre w1 w2 none HJ1.out (((Kp.refl _ w1).drew).trans hk2).grown (fun r e => by cases e)
            have hb2 : w2.heap[Bs]? = some (.cells #[.slice (some ⟨g, off, none⟩) rl cr] 22 (0, 0)) := hk2.heap (w := w1.drew) hb1 (fun h => h)
            have HJ2 := Lib.hid hj2
            have HK2 := Lib.hid hk2
            clear hj2 hk2
            by_cases hcf : cv = fv
            · have c2 := cell_of hb2 0 (v := .slice (some ⟨g, off, none⟩) rl cr) rfl
              have f2 := free_of hb2 0
              by_cases hce : cr = 9 + m
              · subst hce
                by_cases hm0 : m = 0
                · have HM0 := Lib.hid hm0
                  have hm0c : (m = 0) = True := by simp [hm0]
                  clear hm0
                  gi_wp2_with fail
                  obtain ⟨U, hU⟩ : ∃ U, U = w2.setCell ⟨Bs, 0, none⟩ (.slice (some ⟨g, off, none⟩) (0) (0)) := ⟨_, rfl⟩
                  rw [← hU]
                  have hUk : Kp (fun k => k = Bs) w2 U := by rw [hU]; exact (Kp.refl (fun k => k = Bs) w2).setCell (p := ⟨Bs, 0, none⟩) (.inl rfl) _
                  have hUb : U.heap[Bs]? = some (.cells #[.slice (some ⟨g, off, none⟩) (0) (0)] 22 (0, 0)) := by rw [hU]; exact heap_set hb2 0 _
                  have HUB := Lib.hid hUb
                  have hju : J pre U := by rw [hU]; exact hJs _ _ _ HJ2.out
                  have HJU := Lib.hid hju
                  have hm1 : (1 : Int) ≤ (m : Int) + 1 := by omega
                  have hrU : Row U.drew (some ⟨g, off, none⟩) (bytes (x0 :: x1 :: x2 :: x3 :: y0 :: y1 :: y2 :: y3 :: k :: t)) := ((HRW1.out.no (((Kp.refl _ w1).drew).trans HK2.out)).kp hUk (fun g' hg' h => by cases hg'; exact hne h)).no ((Kp.refl _ _).drew)
                  have hck : U.drew.cell? ⟨g, off + 8, none⟩ = some (.int .u8 k) := by
                    obtain ⟨_, _, e, h⟩ := hrU 8 (.int .u8 k) rfl
                    cases e
                    exact h
                  have HRU := Lib.hid hrU
                  have hgl := World.block_lt_of_cell? (a := ⟨g, off + 8, none⟩) U.drew hck
                  dsimp only at hgl
                  have hUs : B ≤ U.heap.size := by have h1 := hUk.size; have h2 := HK2.out.size; have h3 := HK1.out.size; have h4 : w1.drew.heap.size = w1.heap.size := rfl; omega
                  have HUS := Lib.hid hUs
                  have hcl := clone_bytes (w := U.drew) (a := some ⟨g, off + 8, none⟩) (zs := t.take m) (by rw [HM0.out]; exact Row.nil _ _) (by rw [HDL.out]; omega) 0
                  rw [show (t.take m).length = 0 by rw [HDL.out, HM0.out]] at hcl
                  have HCL := Lib.hid hcl
                  clear hcl hrU hUb hUs hU hju hUk
                  refine wpIn_region_any (by kernel_rfl) ?_
                  show wpAnyIn _ _ _ _ _ _ _ _ _ U.drew
                  refine wpAnyIn_take (i := 0) (v := ?_) rfl rfl (by kernel_rfl) (by kernel_rfl) (by kernel_rfl) (fun _ _ _ h => h) ⟨Or.inl ⟨by rfl, ?_⟩, fun _ => rfl⟩ ?_
                  rotate_left
                  · intro w
                    go_simp
                    try with_reducible rfl
                  try simp only [Act.put, List.getElem_toArray, List.getElem_cons_zero, List.getElem_cons_succ, List.setIfInBounds_toArray, List.set_cons_zero, List.set_cons_succ]
                  refine wpAnyIn_take (i := 1) (v := ?_) rfl rfl (by kernel_rfl) (by kernel_rfl) (by kernel_rfl) (fun _ _ _ h => h) ⟨Or.inl ⟨by rfl, ?_⟩, fun _ => rfl⟩ ?_
                  rotate_left
                  · intro w
                    go_simp
                    try with_reducible rfl
                  try simp only [Act.put, List.getElem_toArray, List.getElem_cons_zero, List.getElem_cons_succ, List.setIfInBounds_toArray, List.set_cons_zero, List.set_cons_succ]
                  refine wpAnyIn_take (i := 2) (v := ?_) rfl rfl (by kernel_rfl) (by kernel_rfl) (by kernel_rfl) (fun _ _ _ h => h) ⟨Or.inl ⟨by rfl, ?_⟩, fun _ => rfl⟩ ?_
                  rotate_left
                  · intro w
                    go_simp
                    try with_reducible rfl
                  try simp only [Act.put, List.getElem_toArray, List.getElem_cons_zero, List.getElem_cons_succ, List.setIfInBounds_toArray, List.set_cons_zero, List.set_cons_succ]
                  refine wpAnyIn_take (i := 3) (v := ?_) rfl rfl (by kernel_rfl) (by kernel_rfl) (by kernel_rfl) (fun _ _ _ h => h) ⟨Or.inl ⟨by rfl, ?_⟩, fun _ => rfl⟩ ?_
                  rotate_left
                  · intro w
                    go_simp
                    try with_reducible rfl
                  try simp only [Act.put, List.getElem_toArray, List.getElem_cons_zero, List.getElem_cons_succ, List.setIfInBounds_toArray, List.set_cons_zero, List.set_cons_succ]
                  refine wpAnyIn_take (i := 6) (v := ?_) rfl rfl (by kernel_rfl) (by kernel_rfl) (by kernel_rfl) (fun _ _ _ h => h) ⟨Or.inl ⟨by rfl, ?_⟩, fun _ => rfl⟩ ?_
                  rotate_left
                  · intro w
                    go_simp
                    try with_reducible rfl
                  try simp only [Act.put, List.getElem_toArray, List.getElem_cons_zero, List.getElem_cons_succ, List.setIfInBounds_toArray, List.set_cons_zero, List.set_cons_succ]
                  refine wpAnyIn_take (i := 7) (v := ?_) rfl rfl (by kernel_rfl) (by kernel_rfl) (by kernel_rfl) (fun _ _ _ h => h) ⟨Or.inl ⟨by rfl, ?_⟩, fun _ => rfl⟩ ?_
                  rotate_left
                  · intro w
                    go_simp
                    try with_reducible rfl
                  try simp only [Act.put, List.getElem_toArray, List.getElem_cons_zero, List.getElem_cons_succ, List.setIfInBounds_toArray, List.set_cons_zero, List.set_cons_succ]
                  refine wpAnyIn_ready (rs := [4, 8]) (by kernel_rfl) (by simp) ?_
                  refine AllReadyIn.cons rfl (fun K hK => ?_) (AllReadyIn.cons rfl (fun K hK => ?_) AllReadyIn.nil)
                  focus
                    go_simp
                    refine hK _ _ ?_
                    clear hK K
                    try simp only [Act.put, List.getElem_toArray, List.getElem_cons_zero, List.getElem_cons_succ, List.setIfInBounds_toArray, List.set_cons_zero, List.set_cons_succ]
                    refine wpAnyIn_take (i := 5) (v := ?_) rfl rfl (by kernel_rfl) (by kernel_rfl) (by kernel_rfl) (fun _ _ _ h => h) ⟨Or.inl ⟨by rfl, ?_⟩, fun _ => rfl⟩ ?_
                    rotate_left
                    · intro w
                      go_simp
                      try with_reducible rfl
                    try simp only [Act.put, List.getElem_toArray, List.getElem_cons_zero, List.getElem_cons_succ, List.setIfInBounds_toArray, List.set_cons_zero, List.set_cons_succ]
                    refine wpAnyIn_ready (rs := [8]) (by kernel_rfl) (by simp) ?_
                    refine AllReadyIn.cons rfl (fun K hK => ?_) AllReadyIn.nil
                    go_simp
                    refine ⟨trivial, (callsIn_wide.2 HCL.out).mono ?_⟩
                    rintro e w4 ⟨o, co, rfl, ho4, hk4⟩
                    have hck4 := (hk4.cell (p := ⟨g, off + 8, none⟩) hgl (fun h => h)).trans hck
                    refine hK _ _ ?_
                    clear hK K
                    try simp only [Act.put, List.getElem_toArray, List.getElem_cons_zero, List.getElem_cons_succ, List.setIfInBounds_toArray, List.set_cons_zero, List.set_cons_succ]
                    refine wpAnyIn_take (i := 9) (v := ?_) rfl rfl (by kernel_rfl) (by kernel_rfl) (by kernel_rfl) (fun _ _ _ h => h) ⟨Or.inl ⟨by rfl, ?_⟩, fun _ => rfl⟩ ?_
                    rotate_left
                    · intro w
                      go_simp
                      try with_reducible rfl
                    try simp only [Act.put, List.getElem_toArray, List.getElem_cons_zero, List.getElem_cons_succ, List.setIfInBounds_toArray, List.set_cons_zero, List.set_cons_succ]
                    have hx : ∃ x : Fi, x = ⟨(Fis.by pre).length + (9 + m), k.toNat, t.take m, o, co⟩ := ⟨_, rfl⟩
                    obtain ⟨x, hx⟩ := hx
                    have hv : x.vals = #[.int .i64 ((Fis.by pre).length + (9 + m) : Int), .agg #[.int .i64 k, .slice o 0 co]] := by rw [hx]; simp only [Fi.vals, Fi.frame, show (t.take m).length = 0 by rw [HDL.out, HM0.out], HK0.out]; rfl
                    have hj4 : J pre w4 := hJ pre U w4 none HJU.out (((Kp.refl _ U).drew).trans hk4).grown (fun r e => by cases e)
                    obtain ⟨fn, tmps, assign, body, hy, hR⟩ := hY pre x w4 hj4 (by rw [hx]; exact ⟨ho4.row, fun g' hg' => by have := ho4.from hg'; exact ⟨Nat.le_trans HUS.out this.1, this.2⟩⟩) HPN.out
                    rw [hv] at hy
                    have HXX := Lib.hid hx
                    have HO4 := Lib.hid ho4
                    have HK4 := Lib.hid hk4
                    clear hx hv hj4 ho4 hk4
                    refine wpAnyIn_ready (rs := [10]) (by kernel_rfl) (by simp) ?_
                    refine AllReadyIn.cons rfl (fun K hK => ?_) AllReadyIn.nil
                    go_simp
                    refine hR.mono ?_
                    rintro e w5 ⟨rfl, hJ5, hkb, hs5⟩
                    refine hK _ _ ?_
                    clear hK K
                    try simp only [Act.put, List.getElem_toArray, List.getElem_cons_zero, List.getElem_cons_succ, List.setIfInBounds_toArray, List.set_cons_zero, List.set_cons_succ]
                    refine wpAnyIn_take (i := 11) (v := ?_) rfl rfl (by kernel_rfl) (by kernel_rfl) (by kernel_rfl) (fun _ _ _ h => h) ⟨Or.inl ⟨by rfl, ?_⟩, fun _ => rfl⟩ ?_
                    rotate_left
                    · intro w
                      go_simp
                      try with_reducible rfl
                    try simp only [Act.put, List.getElem_toArray, List.getElem_cons_zero, List.getElem_cons_succ, List.setIfInBounds_toArray, List.set_cons_zero, List.set_cons_succ]
                    refine wpAnyIn_done (by kernel_rfl) ?_ _
                    clear hy hR
                    gi_wp2_with fail
                    refine ⟨?rel, ?meas⟩
                    case rel =>
                      obtain ⟨n1, n2, n3, n4, n5⟩ := frames_next HB.out HALL.out h9 HR.out HM.out HTL.out (HCV.out.trans (hcf.trans HFV.out.symm)) HM6.out HXX.out
                      rw [HRL.out, Nat.sub_eq_zero_of_le hcr] at n5
                      refine ⟨pre ++ [x], t.drop m, some ⟨g, off, none⟩, 0, congrArg (Value.int IntKind.i64) (by rw [n1]; exact cast9 _ _), n2, n3, n4, ?_, ?_, fun _ => ⟨off, rfl⟩, ?_, ?_, hJ5⟩
                      · rw [n5]
                        exact hkb.2.trans (HK4.out.heap (w := U.drew) HUB.out (fun h => h))
                      · rw [show t.drop m = [] from List.eq_nil_of_length_eq_zero n5]; exact Row.nil _ _
                      · rw [n5]
                        exact Nat.le_refl _
                      · exact Nat.le_trans (Nat.le_of_eq hW) (Nat.le_trans HUS.out (Nat.le_trans (HK4.out.size : U.drew.heap.size ≤ w4.heap.size) hs5))
                    case meas => exact meas9 HAB.out
                  focus
                    go_simp
                    refine ⟨trivial, (callsIn_wide.2 HCL.out).mono ?_⟩
                    rintro e w4 ⟨o, co, rfl, ho4, hk4⟩
                    have hck4 := (hk4.cell (p := ⟨g, off + 8, none⟩) hgl (fun h => h)).trans hck
                    refine hK _ _ ?_
                    clear hK K
                    try simp only [Act.put, List.getElem_toArray, List.getElem_cons_zero, List.getElem_cons_succ, List.setIfInBounds_toArray, List.set_cons_zero, List.set_cons_succ]
                    refine wpAnyIn_ready (rs := [4]) (by kernel_rfl) (by simp) ?_
                    refine AllReadyIn.cons rfl (fun K hK => ?_) AllReadyIn.nil
                    go_simp
                    refine hK _ _ ?_
                    clear hK K
                    try simp only [Act.put, List.getElem_toArray, List.getElem_cons_zero, List.getElem_cons_succ, List.setIfInBounds_toArray, List.set_cons_zero, List.set_cons_succ]
                    refine wpAnyIn_take (i := 5) (v := ?_) rfl rfl (by kernel_rfl) (by kernel_rfl) (by kernel_rfl) (fun _ _ _ h => h) ⟨Or.inl ⟨by rfl, ?_⟩, fun _ => rfl⟩ ?_
                    rotate_left
                    · intro w
                      go_simp
                      try with_reducible rfl
                    try simp only [Act.put, List.getElem_toArray, List.getElem_cons_zero, List.getElem_cons_succ, List.setIfInBounds_toArray, List.set_cons_zero, List.set_cons_succ]
                    refine wpAnyIn_take (i := 9) (v := ?_) rfl rfl (by kernel_rfl) (by kernel_rfl) (by kernel_rfl) (fun _ _ _ h => h) ⟨Or.inl ⟨by rfl, ?_⟩, fun _ => rfl⟩ ?_
                    rotate_left
                    · intro w
                      go_simp
                      try with_reducible rfl
                    try simp only [Act.put, List.getElem_toArray, List.getElem_cons_zero, List.getElem_cons_succ, List.setIfInBounds_toArray, List.set_cons_zero, List.set_cons_succ]
                    have hx : ∃ x : Fi, x = ⟨(Fis.by pre).length + (9 + m), k.toNat, t.take m, o, co⟩ := ⟨_, rfl⟩
                    obtain ⟨x, hx⟩ := hx
                    have hv : x.vals = #[.int .i64 ((Fis.by pre).length + (9 + m) : Int), .agg #[.int .i64 k, .slice o 0 co]] := by rw [hx]; simp only [Fi.vals, Fi.frame, show (t.take m).length = 0 by rw [HDL.out, HM0.out], HK0.out]; rfl
                    have hj4 : J pre w4 := hJ pre U w4 none HJU.out (((Kp.refl _ U).drew).trans hk4).grown (fun r e => by cases e)
                    obtain ⟨fn, tmps, assign, body, hy, hR⟩ := hY pre x w4 hj4 (by rw [hx]; exact ⟨ho4.row, fun g' hg' => by have := ho4.from hg'; exact ⟨Nat.le_trans HUS.out this.1, this.2⟩⟩) HPN.out
                    rw [hv] at hy
                    have HXX := Lib.hid hx
                    have HO4 := Lib.hid ho4
                    have HK4 := Lib.hid hk4
                    clear hx hv hj4 ho4 hk4
                    refine wpAnyIn_ready (rs := [10]) (by kernel_rfl) (by simp) ?_
                    refine AllReadyIn.cons rfl (fun K hK => ?_) AllReadyIn.nil
                    go_simp
                    refine hR.mono ?_
                    rintro e w5 ⟨rfl, hJ5, hkb, hs5⟩
                    refine hK _ _ ?_
                    clear hK K
                    try simp only [Act.put, List.getElem_toArray, List.getElem_cons_zero, List.getElem_cons_succ, List.setIfInBounds_toArray, List.set_cons_zero, List.set_cons_succ]
                    refine wpAnyIn_take (i := 11) (v := ?_) rfl rfl (by kernel_rfl) (by kernel_rfl) (by kernel_rfl) (fun _ _ _ h => h) ⟨Or.inl ⟨by rfl, ?_⟩, fun _ => rfl⟩ ?_
                    rotate_left
                    · intro w
                      go_simp
                      try with_reducible rfl
                    try simp only [Act.put, List.getElem_toArray, List.getElem_cons_zero, List.getElem_cons_succ, List.setIfInBounds_toArray, List.set_cons_zero, List.set_cons_succ]
                    refine wpAnyIn_done (by kernel_rfl) ?_ _
                    clear hy hR
                    gi_wp2_with fail
                    refine ⟨?rel, ?meas⟩
                    case rel =>
                      obtain ⟨n1, n2, n3, n4, n5⟩ := frames_next HB.out HALL.out h9 HR.out HM.out HTL.out (HCV.out.trans (hcf.trans HFV.out.symm)) HM6.out HXX.out
                      rw [HRL.out, Nat.sub_eq_zero_of_le hcr] at n5
                      refine ⟨pre ++ [x], t.drop m, some ⟨g, off, none⟩, 0, congrArg (Value.int IntKind.i64) (by rw [n1]; exact cast9 _ _), n2, n3, n4, ?_, ?_, fun _ => ⟨off, rfl⟩, ?_, ?_, hJ5⟩
                      · rw [n5]
                        exact hkb.2.trans (HK4.out.heap (w := U.drew) HUB.out (fun h => h))
                      · rw [show t.drop m = [] from List.eq_nil_of_length_eq_zero n5]; exact Row.nil _ _
                      · rw [n5]
                        exact Nat.le_refl _
                      · exact Nat.le_trans (Nat.le_of_eq hW) (Nat.le_trans HUS.out (Nat.le_trans (HK4.out.size : U.drew.heap.size ≤ w4.heap.size) hs5))
                    case meas => exact meas9 HAB.out
                · have hm0c : (m = 0) = False := by simp [hm0]
                  clear hm0
                  gi_wp2_with fail
                  obtain ⟨U, hU⟩ : ∃ U, U = w2.setCell ⟨Bs, 0, none⟩ (.slice (some ⟨g, off, none⟩) (0) (0)) := ⟨_, rfl⟩
                  rw [← hU]
                  have hUk : Kp (fun k => k = Bs) w2 U := by rw [hU]; exact (Kp.refl (fun k => k = Bs) w2).setCell (p := ⟨Bs, 0, none⟩) (.inl rfl) _
                  have hUb : U.heap[Bs]? = some (.cells #[.slice (some ⟨g, off, none⟩) (0) (0)] 22 (0, 0)) := by rw [hU]; exact heap_set hb2 0 _
                  have HUB := Lib.hid hUb
                  have hju : J pre U := by rw [hU]; exact hJs _ _ _ HJ2.out
                  have HJU := Lib.hid hju
                  have hm1 : (1 : Int) ≤ (m : Int) + 1 := by omega
                  have hrU : Row U.drew (some ⟨g, off, none⟩) (bytes (x0 :: x1 :: x2 :: x3 :: y0 :: y1 :: y2 :: y3 :: k :: t)) := ((HRW1.out.no (((Kp.refl _ w1).drew).trans HK2.out)).kp hUk (fun g' hg' h => by cases hg'; exact hne h)).no ((Kp.refl _ _).drew)
                  have hck : U.drew.cell? ⟨g, off + 8, none⟩ = some (.int .u8 k) := by
                    obtain ⟨_, _, e, h⟩ := hrU 8 (.int .u8 k) rfl
                    cases e
                    exact h
                  have HRU := Lib.hid hrU
                  have hgl := World.block_lt_of_cell? (a := ⟨g, off + 8, none⟩) U.drew hck
                  dsimp only at hgl
                  have hUs : B ≤ U.heap.size := by have h1 := hUk.size; have h2 := HK2.out.size; have h3 := HK1.out.size; have h4 : w1.drew.heap.size = w1.heap.size := rfl; omega
                  have HUS := Lib.hid hUs
                  have hcl := clone_bytes (w := U.drew) (a := some ⟨g, off + 8 + 1, none⟩) (zs := t.take m) (by have h1 := hrU.sub (A := [x0, x1, x2, x3, y0, y1, y2, y3, k]) (b := t) (m := 9) rfl; have h2 := List.take_append_drop m t; rw [← h2] at h1; exact (show Row U.drew _ _ from h1.cut)) (by rw [HDL.out]; omega) (m)
                  rw [HDL.out] at hcl
                  have HCL := Lib.hid hcl
                  clear hcl hrU hUb hUs hU hju hUk
                  refine wpIn_region_any (by kernel_rfl) ?_
                  show wpAnyIn _ _ _ _ _ _ _ _ _ U.drew
                  refine wpAnyIn_take (i := 0) (v := ?_) rfl rfl (by kernel_rfl) (by kernel_rfl) (by kernel_rfl) (fun _ _ _ h => h) ⟨Or.inl ⟨by rfl, ?_⟩, fun _ => rfl⟩ ?_
                  rotate_left
                  · intro w
                    go_simp
                    try with_reducible rfl
                  try simp only [Act.put, List.getElem_toArray, List.getElem_cons_zero, List.getElem_cons_succ, List.setIfInBounds_toArray, List.set_cons_zero, List.set_cons_succ]
                  refine wpAnyIn_take (i := 1) (v := ?_) rfl rfl (by kernel_rfl) (by kernel_rfl) (by kernel_rfl) (fun _ _ _ h => h) ⟨Or.inl ⟨by rfl, ?_⟩, fun _ => rfl⟩ ?_
                  rotate_left
                  · intro w
                    go_simp
                    try with_reducible rfl
                  try simp only [Act.put, List.getElem_toArray, List.getElem_cons_zero, List.getElem_cons_succ, List.setIfInBounds_toArray, List.set_cons_zero, List.set_cons_succ]
                  refine wpAnyIn_take (i := 2) (v := ?_) rfl rfl (by kernel_rfl) (by kernel_rfl) (by kernel_rfl) (fun _ _ _ h => h) ⟨Or.inl ⟨by rfl, ?_⟩, fun _ => rfl⟩ ?_
                  rotate_left
                  · intro w
                    go_simp
                    try with_reducible rfl
                  try simp only [Act.put, List.getElem_toArray, List.getElem_cons_zero, List.getElem_cons_succ, List.setIfInBounds_toArray, List.set_cons_zero, List.set_cons_succ]
                  refine wpAnyIn_take (i := 3) (v := ?_) rfl rfl (by kernel_rfl) (by kernel_rfl) (by kernel_rfl) (fun _ _ _ h => h) ⟨Or.inl ⟨by rfl, ?_⟩, fun _ => rfl⟩ ?_
                  rotate_left
                  · intro w
                    go_simp
                    try with_reducible rfl
                  try simp only [Act.put, List.getElem_toArray, List.getElem_cons_zero, List.getElem_cons_succ, List.setIfInBounds_toArray, List.set_cons_zero, List.set_cons_succ]
                  refine wpAnyIn_take (i := 6) (v := ?_) rfl rfl (by kernel_rfl) (by kernel_rfl) (by kernel_rfl) (fun _ _ _ h => h) ⟨Or.inl ⟨by rfl, ?_⟩, fun _ => rfl⟩ ?_
                  rotate_left
                  · intro w
                    go_simp
                    try with_reducible rfl
                  try simp only [Act.put, List.getElem_toArray, List.getElem_cons_zero, List.getElem_cons_succ, List.setIfInBounds_toArray, List.set_cons_zero, List.set_cons_succ]
                  refine wpAnyIn_take (i := 7) (v := ?_) rfl rfl (by kernel_rfl) (by kernel_rfl) (by kernel_rfl) (fun _ _ _ h => h) ⟨Or.inl ⟨by rfl, ?_⟩, fun _ => rfl⟩ ?_
                  rotate_left
                  · intro w
                    go_simp
                    try with_reducible rfl
                  try simp only [Act.put, List.getElem_toArray, List.getElem_cons_zero, List.getElem_cons_succ, List.setIfInBounds_toArray, List.set_cons_zero, List.set_cons_succ]
                  refine wpAnyIn_ready (rs := [4, 8]) (by kernel_rfl) (by simp) ?_
                  refine AllReadyIn.cons rfl (fun K hK => ?_) (AllReadyIn.cons rfl (fun K hK => ?_) AllReadyIn.nil)
                  focus
                    go_simp
                    refine hK _ _ ?_
                    clear hK K
                    try simp only [Act.put, List.getElem_toArray, List.getElem_cons_zero, List.getElem_cons_succ, List.setIfInBounds_toArray, List.set_cons_zero, List.set_cons_succ]
                    refine wpAnyIn_take (i := 5) (v := ?_) rfl rfl (by kernel_rfl) (by kernel_rfl) (by kernel_rfl) (fun _ _ _ h => h) ⟨Or.inl ⟨by rfl, ?_⟩, fun _ => rfl⟩ ?_
                    rotate_left
                    · intro w
                      go_simp
                      try with_reducible rfl
                    try simp only [Act.put, List.getElem_toArray, List.getElem_cons_zero, List.getElem_cons_succ, List.setIfInBounds_toArray, List.set_cons_zero, List.set_cons_succ]
                    refine wpAnyIn_ready (rs := [8]) (by kernel_rfl) (by simp) ?_
                    refine AllReadyIn.cons rfl (fun K hK => ?_) AllReadyIn.nil
                    go_simp
                    refine ⟨trivial, (callsIn_wide.2 HCL.out).mono ?_⟩
                    rintro e w4 ⟨o, co, rfl, ho4, hk4⟩
                    have hck4 := (hk4.cell (p := ⟨g, off + 8, none⟩) hgl (fun h => h)).trans hck
                    refine hK _ _ ?_
                    clear hK K
                    try simp only [Act.put, List.getElem_toArray, List.getElem_cons_zero, List.getElem_cons_succ, List.setIfInBounds_toArray, List.set_cons_zero, List.set_cons_succ]
                    refine wpAnyIn_take (i := 9) (v := ?_) rfl rfl (by kernel_rfl) (by kernel_rfl) (by kernel_rfl) (fun _ _ _ h => h) ⟨Or.inl ⟨by rfl, ?_⟩, fun _ => rfl⟩ ?_
                    rotate_left
                    · intro w
                      go_simp
                      try with_reducible rfl
                    try simp only [Act.put, List.getElem_toArray, List.getElem_cons_zero, List.getElem_cons_succ, List.setIfInBounds_toArray, List.set_cons_zero, List.set_cons_succ]
                    have hx : ∃ x : Fi, x = ⟨(Fis.by pre).length + (9 + m), k.toNat, t.take m, o, co⟩ := ⟨_, rfl⟩
                    obtain ⟨x, hx⟩ := hx
                    have hv : x.vals = #[.int .i64 ((Fis.by pre).length + (9 + m) : Int), .agg #[.int .i64 k, .slice o m co]] := by rw [hx]; simp only [Fi.vals, Fi.frame, HDL.out, HK0.out]; rfl
                    have hj4 : J pre w4 := hJ pre U w4 none HJU.out (((Kp.refl _ U).drew).trans hk4).grown (fun r e => by cases e)
                    obtain ⟨fn, tmps, assign, body, hy, hR⟩ := hY pre x w4 hj4 (by rw [hx]; exact ⟨ho4.row, fun g' hg' => by have := ho4.from hg'; exact ⟨Nat.le_trans HUS.out this.1, this.2⟩⟩) HPN.out
                    rw [hv] at hy
                    have HXX := Lib.hid hx
                    have HO4 := Lib.hid ho4
                    have HK4 := Lib.hid hk4
                    clear hx hv hj4 ho4 hk4
                    refine wpAnyIn_ready (rs := [10]) (by kernel_rfl) (by simp) ?_
                    refine AllReadyIn.cons rfl (fun K hK => ?_) AllReadyIn.nil
                    go_simp
                    refine hR.mono ?_
                    rintro e w5 ⟨rfl, hJ5, hkb, hs5⟩
                    refine hK _ _ ?_
                    clear hK K
                    try simp only [Act.put, List.getElem_toArray, List.getElem_cons_zero, List.getElem_cons_succ, List.setIfInBounds_toArray, List.set_cons_zero, List.set_cons_succ]
                    refine wpAnyIn_take (i := 11) (v := ?_) rfl rfl (by kernel_rfl) (by kernel_rfl) (by kernel_rfl) (fun _ _ _ h => h) ⟨Or.inl ⟨by rfl, ?_⟩, fun _ => rfl⟩ ?_
                    rotate_left
                    · intro w
                      go_simp
                      try with_reducible rfl
                    try simp only [Act.put, List.getElem_toArray, List.getElem_cons_zero, List.getElem_cons_succ, List.setIfInBounds_toArray, List.set_cons_zero, List.set_cons_succ]
                    refine wpAnyIn_done (by kernel_rfl) ?_ _
                    clear hy hR
                    gi_wp2_with fail
                    refine ⟨?rel, ?meas⟩
                    case rel =>
                      obtain ⟨n1, n2, n3, n4, n5⟩ := frames_next HB.out HALL.out h9 HR.out HM.out HTL.out (HCV.out.trans (hcf.trans HFV.out.symm)) HM6.out HXX.out
                      rw [HRL.out, Nat.sub_eq_zero_of_le hcr] at n5
                      refine ⟨pre ++ [x], t.drop m, some ⟨g, off, none⟩, 0, congrArg (Value.int IntKind.i64) (by rw [n1]; exact cast9 _ _), n2, n3, n4, ?_, ?_, fun _ => ⟨off, rfl⟩, ?_, ?_, hJ5⟩
                      · rw [n5]
                        exact hkb.2.trans (HK4.out.heap (w := U.drew) HUB.out (fun h => h))
                      · rw [show t.drop m = [] from List.eq_nil_of_length_eq_zero n5]; exact Row.nil _ _
                      · rw [n5]
                        exact Nat.le_refl _
                      · exact Nat.le_trans (Nat.le_of_eq hW) (Nat.le_trans HUS.out (Nat.le_trans (HK4.out.size : U.drew.heap.size ≤ w4.heap.size) hs5))
                    case meas => exact meas9 HAB.out
                  focus
                    go_simp
                    refine ⟨trivial, (callsIn_wide.2 HCL.out).mono ?_⟩
                    rintro e w4 ⟨o, co, rfl, ho4, hk4⟩
                    have hck4 := (hk4.cell (p := ⟨g, off + 8, none⟩) hgl (fun h => h)).trans hck
                    refine hK _ _ ?_
                    clear hK K
                    try simp only [Act.put, List.getElem_toArray, List.getElem_cons_zero, List.getElem_cons_succ, List.setIfInBounds_toArray, List.set_cons_zero, List.set_cons_succ]
                    refine wpAnyIn_ready (rs := [4]) (by kernel_rfl) (by simp) ?_
                    refine AllReadyIn.cons rfl (fun K hK => ?_) AllReadyIn.nil
                    go_simp
                    refine hK _ _ ?_
                    clear hK K
                    try simp only [Act.put, List.getElem_toArray, List.getElem_cons_zero, List.getElem_cons_succ, List.setIfInBounds_toArray, List.set_cons_zero, List.set_cons_succ]
                    refine wpAnyIn_take (i := 5) (v := ?_) rfl rfl (by kernel_rfl) (by kernel_rfl) (by kernel_rfl) (fun _ _ _ h => h) ⟨Or.inl ⟨by rfl, ?_⟩, fun _ => rfl⟩ ?_
                    rotate_left
                    · intro w
                      go_simp
                      try with_reducible rfl
                    try simp only [Act.put, List.getElem_toArray, List.getElem_cons_zero, List.getElem_cons_succ, List.setIfInBounds_toArray, List.set_cons_zero, List.set_cons_succ]
                    refine wpAnyIn_take (i := 9) (v := ?_) rfl rfl (by kernel_rfl) (by kernel_rfl) (by kernel_rfl) (fun _ _ _ h => h) ⟨Or.inl ⟨by rfl, ?_⟩, fun _ => rfl⟩ ?_
                    rotate_left
                    · intro w
                      go_simp
                      try with_reducible rfl
                    try simp only [Act.put, List.getElem_toArray, List.getElem_cons_zero, List.getElem_cons_succ, List.setIfInBounds_toArray, List.set_cons_zero, List.set_cons_succ]
                    have hx : ∃ x : Fi, x = ⟨(Fis.by pre).length + (9 + m), k.toNat, t.take m, o, co⟩ := ⟨_, rfl⟩
                    obtain ⟨x, hx⟩ := hx
                    have hv : x.vals = #[.int .i64 ((Fis.by pre).length + (9 + m) : Int), .agg #[.int .i64 k, .slice o m co]] := by rw [hx]; simp only [Fi.vals, Fi.frame, HDL.out, HK0.out]; rfl
                    have hj4 : J pre w4 := hJ pre U w4 none HJU.out (((Kp.refl _ U).drew).trans hk4).grown (fun r e => by cases e)
                    obtain ⟨fn, tmps, assign, body, hy, hR⟩ := hY pre x w4 hj4 (by rw [hx]; exact ⟨ho4.row, fun g' hg' => by have := ho4.from hg'; exact ⟨Nat.le_trans HUS.out this.1, this.2⟩⟩) HPN.out
                    rw [hv] at hy
                    have HXX := Lib.hid hx
                    have HO4 := Lib.hid ho4
                    have HK4 := Lib.hid hk4
                    clear hx hv hj4 ho4 hk4
                    refine wpAnyIn_ready (rs := [10]) (by kernel_rfl) (by simp) ?_
                    refine AllReadyIn.cons rfl (fun K hK => ?_) AllReadyIn.nil
                    go_simp
                    refine hR.mono ?_
                    rintro e w5 ⟨rfl, hJ5, hkb, hs5⟩
                    refine hK _ _ ?_
                    clear hK K
                    try simp only [Act.put, List.getElem_toArray, List.getElem_cons_zero, List.getElem_cons_succ, List.setIfInBounds_toArray, List.set_cons_zero, List.set_cons_succ]
                    refine wpAnyIn_take (i := 11) (v := ?_) rfl rfl (by kernel_rfl) (by kernel_rfl) (by kernel_rfl) (fun _ _ _ h => h) ⟨Or.inl ⟨by rfl, ?_⟩, fun _ => rfl⟩ ?_
                    rotate_left
                    · intro w
                      go_simp
                      try with_reducible rfl
                    try simp only [Act.put, List.getElem_toArray, List.getElem_cons_zero, List.getElem_cons_succ, List.setIfInBounds_toArray, List.set_cons_zero, List.set_cons_succ]
                    refine wpAnyIn_done (by kernel_rfl) ?_ _
                    clear hy hR
                    gi_wp2_with fail
                    refine ⟨?rel, ?meas⟩
                    case rel =>
                      obtain ⟨n1, n2, n3, n4, n5⟩ := frames_next HB.out HALL.out h9 HR.out HM.out HTL.out (HCV.out.trans (hcf.trans HFV.out.symm)) HM6.out HXX.out
                      rw [HRL.out, Nat.sub_eq_zero_of_le hcr] at n5
                      refine ⟨pre ++ [x], t.drop m, some ⟨g, off, none⟩, 0, congrArg (Value.int IntKind.i64) (by rw [n1]; exact cast9 _ _), n2, n3, n4, ?_, ?_, fun _ => ⟨off, rfl⟩, ?_, ?_, hJ5⟩
                      · rw [n5]
                        exact hkb.2.trans (HK4.out.heap (w := U.drew) HUB.out (fun h => h))
                      · rw [show t.drop m = [] from List.eq_nil_of_length_eq_zero n5]; exact Row.nil _ _
                      · rw [n5]
                        exact Nat.le_refl _
                      · exact Nat.le_trans (Nat.le_of_eq hW) (Nat.le_trans HUS.out (Nat.le_trans (HK4.out.size : U.drew.heap.size ≤ w4.heap.size) hs5))
                    case meas => exact meas9 HAB.out
              · have hce' : ¬ ((cr : Int) ≤ 9 + (m : Int)) := by omega
                have hce9 : ¬ (cr - 8 = 1) := by omega
                gi_wp2_with fail
                obtain ⟨U, hU⟩ : ∃ U, U = w2.setCell ⟨Bs, 0, none⟩ (.slice (some ⟨g, off + (9 + m), none⟩) (rl - (9 + m)) (cr - (9 + m))) := ⟨_, rfl⟩
                rw [← hU]
                have hUk : Kp (fun k => k = Bs) w2 U := by rw [hU]; exact (Kp.refl (fun k => k = Bs) w2).setCell (p := ⟨Bs, 0, none⟩) (.inl rfl) _
                have hUb : U.heap[Bs]? = some (.cells #[.slice (some ⟨g, off + (9 + m), none⟩) (rl - (9 + m)) (cr - (9 + m))] 22 (0, 0)) := by rw [hU]; exact heap_set hb2 0 _
                have HUB := Lib.hid hUb
                have hju : J pre U := by rw [hU]; exact hJs _ _ _ HJ2.out
                have HJU := Lib.hid hju
                have hm1 : (1 : Int) ≤ (m : Int) + 1 := by omega
                have hrU : Row U.drew (some ⟨g, off, none⟩) (bytes (x0 :: x1 :: x2 :: x3 :: y0 :: y1 :: y2 :: y3 :: k :: t)) := ((HRW1.out.no (((Kp.refl _ w1).drew).trans HK2.out)).kp hUk (fun g' hg' h => by cases hg'; exact hne h)).no ((Kp.refl _ _).drew)
                have hck : U.drew.cell? ⟨g, off + 8, none⟩ = some (.int .u8 k) := by
                  obtain ⟨_, _, e, h⟩ := hrU 8 (.int .u8 k) rfl
                  cases e
                  exact h
                have HRU := Lib.hid hrU
                have hgl := World.block_lt_of_cell? (a := ⟨g, off + 8, none⟩) U.drew hck
                dsimp only at hgl
                have hUs : B ≤ U.heap.size := by have h1 := hUk.size; have h2 := HK2.out.size; have h3 := HK1.out.size; have h4 : w1.drew.heap.size = w1.heap.size := rfl; omega
                have HUS := Lib.hid hUs
                have hcl := clone_bytes (w := U.drew) (a := some ⟨g, off + 9, none⟩) (zs := t.take m) (by have h1 := hrU.sub (A := [x0, x1, x2, x3, y0, y1, y2, y3, k]) (b := t) (m := 9) rfl; have h2 := List.take_append_drop m t; rw [← h2] at h1; exact (show Row U.drew _ _ from h1.cut)) (by rw [HDL.out]; omega) (cr - 8 - 1)
                rw [HDL.out] at hcl
                have HCL := Lib.hid hcl
                clear hcl hrU hUb hUs hU hju hUk
                refine wpIn_region_any (by kernel_rfl) ?_
                show wpAnyIn _ _ _ _ _ _ _ _ _ U.drew
                refine wpAnyIn_take (i := 0) (v := ?_) rfl rfl (by kernel_rfl) (by kernel_rfl) (by kernel_rfl) (fun _ _ _ h => h) ⟨Or.inl ⟨by rfl, ?_⟩, fun _ => rfl⟩ ?_
                rotate_left
                · intro w
                  go_simp
                  try with_reducible rfl
                try simp only [Act.put, List.getElem_toArray, List.getElem_cons_zero, List.getElem_cons_succ, List.setIfInBounds_toArray, List.set_cons_zero, List.set_cons_succ]
                refine wpAnyIn_take (i := 1) (v := ?_) rfl rfl (by kernel_rfl) (by kernel_rfl) (by kernel_rfl) (fun _ _ _ h => h) ⟨Or.inl ⟨by rfl, ?_⟩, fun _ => rfl⟩ ?_
                rotate_left
                · intro w
                  go_simp
                  try with_reducible rfl
                try simp only [Act.put, List.getElem_toArray, List.getElem_cons_zero, List.getElem_cons_succ, List.setIfInBounds_toArray, List.set_cons_zero, List.set_cons_succ]
                refine wpAnyIn_take (i := 2) (v := ?_) rfl rfl (by kernel_rfl) (by kernel_rfl) (by kernel_rfl) (fun _ _ _ h => h) ⟨Or.inl ⟨by rfl, ?_⟩, fun _ => rfl⟩ ?_
                rotate_left
                · intro w
                  go_simp
                  try with_reducible rfl
                try simp only [Act.put, List.getElem_toArray, List.getElem_cons_zero, List.getElem_cons_succ, List.setIfInBounds_toArray, List.set_cons_zero, List.set_cons_succ]
                refine wpAnyIn_take (i := 3) (v := ?_) rfl rfl (by kernel_rfl) (by kernel_rfl) (by kernel_rfl) (fun _ _ _ h => h) ⟨Or.inl ⟨by rfl, ?_⟩, fun _ => rfl⟩ ?_
                rotate_left
                · intro w
                  go_simp
                  try with_reducible rfl
                try simp only [Act.put, List.getElem_toArray, List.getElem_cons_zero, List.getElem_cons_succ, List.setIfInBounds_toArray, List.set_cons_zero, List.set_cons_succ]
                refine wpAnyIn_take (i := 6) (v := ?_) rfl rfl (by kernel_rfl) (by kernel_rfl) (by kernel_rfl) (fun _ _ _ h => h) ⟨Or.inl ⟨by rfl, ?_⟩, fun _ => rfl⟩ ?_
                rotate_left
                · intro w
                  go_simp
                  try with_reducible rfl
                try simp only [Act.put, List.getElem_toArray, List.getElem_cons_zero, List.getElem_cons_succ, List.setIfInBounds_toArray, List.set_cons_zero, List.set_cons_succ]
                refine wpAnyIn_take (i := 7) (v := ?_) rfl rfl (by kernel_rfl) (by kernel_rfl) (by kernel_rfl) (fun _ _ _ h => h) ⟨Or.inl ⟨by rfl, ?_⟩, fun _ => rfl⟩ ?_
                rotate_left
                · intro w
                  go_simp
                  try with_reducible rfl
                try simp only [Act.put, List.getElem_toArray, List.getElem_cons_zero, List.getElem_cons_succ, List.setIfInBounds_toArray, List.set_cons_zero, List.set_cons_succ]
                refine wpAnyIn_ready (rs := [4, 8]) (by kernel_rfl) (by simp) ?_
                refine AllReadyIn.cons rfl (fun K hK => ?_) (AllReadyIn.cons rfl (fun K hK => ?_) AllReadyIn.nil)
                focus
                  go_simp
                  refine hK _ _ ?_
                  clear hK K
                  try simp only [Act.put, List.getElem_toArray, List.getElem_cons_zero, List.getElem_cons_succ, List.setIfInBounds_toArray, List.set_cons_zero, List.set_cons_succ]
                  refine wpAnyIn_take (i := 5) (v := ?_) rfl rfl (by kernel_rfl) (by kernel_rfl) (by kernel_rfl) (fun _ _ _ h => h) ⟨Or.inl ⟨by rfl, ?_⟩, fun _ => rfl⟩ ?_
                  rotate_left
                  · intro w
                    go_simp
                    try with_reducible rfl
                  try simp only [Act.put, List.getElem_toArray, List.getElem_cons_zero, List.getElem_cons_succ, List.setIfInBounds_toArray, List.set_cons_zero, List.set_cons_succ]
                  refine wpAnyIn_ready (rs := [8]) (by kernel_rfl) (by simp) ?_
                  refine AllReadyIn.cons rfl (fun K hK => ?_) AllReadyIn.nil
                  go_simp
                  refine ⟨trivial, (callsIn_wide.2 HCL.out).mono ?_⟩
                  rintro e w4 ⟨o, co, rfl, ho4, hk4⟩
                  have hck4 := (hk4.cell (p := ⟨g, off + 8, none⟩) hgl (fun h => h)).trans hck
                  refine hK _ _ ?_
                  clear hK K
                  try simp only [Act.put, List.getElem_toArray, List.getElem_cons_zero, List.getElem_cons_succ, List.setIfInBounds_toArray, List.set_cons_zero, List.set_cons_succ]
                  refine wpAnyIn_take (i := 9) (v := ?_) rfl rfl (by kernel_rfl) (by kernel_rfl) (by kernel_rfl) (fun _ _ _ h => h) ⟨Or.inl ⟨by rfl, ?_⟩, fun _ => rfl⟩ ?_
                  rotate_left
                  · intro w
                    go_simp
                    try with_reducible rfl
                  try simp only [Act.put, List.getElem_toArray, List.getElem_cons_zero, List.getElem_cons_succ, List.setIfInBounds_toArray, List.set_cons_zero, List.set_cons_succ]
                  have hx : ∃ x : Fi, x = ⟨(Fis.by pre).length + (9 + m), k.toNat, t.take m, o, co⟩ := ⟨_, rfl⟩
                  obtain ⟨x, hx⟩ := hx
                  have hv : x.vals = #[.int .i64 ((Fis.by pre).length + (9 + m) : Int), .agg #[.int .i64 k, .slice o m co]] := by rw [hx]; simp only [Fi.vals, Fi.frame, HDL.out, HK0.out]; rfl
                  have hj4 : J pre w4 := hJ pre U w4 none HJU.out (((Kp.refl _ U).drew).trans hk4).grown (fun r e => by cases e)
                  obtain ⟨fn, tmps, assign, body, hy, hR⟩ := hY pre x w4 hj4 (by rw [hx]; exact ⟨ho4.row, fun g' hg' => by have := ho4.from hg'; exact ⟨Nat.le_trans HUS.out this.1, this.2⟩⟩) HPN.out
                  rw [hv] at hy
                  have HXX := Lib.hid hx
                  have HO4 := Lib.hid ho4
                  have HK4 := Lib.hid hk4
                  clear hx hv hj4 ho4 hk4
                  refine wpAnyIn_ready (rs := [10]) (by kernel_rfl) (by simp) ?_
                  refine AllReadyIn.cons rfl (fun K hK => ?_) AllReadyIn.nil
                  go_simp
                  refine hR.mono ?_
                  rintro e w5 ⟨rfl, hJ5, hkb, hs5⟩
                  refine hK _ _ ?_
                  clear hK K
                  try simp only [Act.put, List.getElem_toArray, List.getElem_cons_zero, List.getElem_cons_succ, List.setIfInBounds_toArray, List.set_cons_zero, List.set_cons_succ]
                  refine wpAnyIn_take (i := 11) (v := ?_) rfl rfl (by kernel_rfl) (by kernel_rfl) (by kernel_rfl) (fun _ _ _ h => h) ⟨Or.inl ⟨by rfl, ?_⟩, fun _ => rfl⟩ ?_
                  rotate_left
                  · intro w
                    go_simp
                    try with_reducible rfl
                  try simp only [Act.put, List.getElem_toArray, List.getElem_cons_zero, List.getElem_cons_succ, List.setIfInBounds_toArray, List.set_cons_zero, List.set_cons_succ]
                  refine wpAnyIn_done (by kernel_rfl) ?_ _
                  clear hy hR
                  gi_wp2_with fail
                  refine ⟨?rel, ?meas⟩
                  case rel =>
                    obtain ⟨n1, n2, n3, n4, n5⟩ := frames_next HB.out HALL.out h9 HR.out HM.out HTL.out (HCV.out.trans (hcf.trans HFV.out.symm)) HM6.out HXX.out
                    rw [HRL.out] at n5
                    refine ⟨pre ++ [x], t.drop m, some ⟨g, off + (9 + m), none⟩, cr - (9 + m), congrArg (Value.int IntKind.i64) (by rw [n1]; exact cast9 _ _), n2, n3, n4, ?_, ?_, fun _ => ⟨off + (9 + m), rfl⟩, ?_, ?_, hJ5⟩
                    · rw [n5]
                      exact hkb.2.trans (HK4.out.heap (w := U.drew) HUB.out (fun h => h))
                    · exact rest_row HRU.out HRL.out n5 (hkb.1.trans (HK4.out.block g hgl (fun h => h)))
                    · rw [n5]
                      exact Nat.sub_le_sub_right hcr _
                    · exact Nat.le_trans (Nat.le_of_eq hW) (Nat.le_trans HUS.out (Nat.le_trans (HK4.out.size : U.drew.heap.size ≤ w4.heap.size) hs5))
                  case meas => exact meas9 HAB.out
                focus
                  go_simp
                  refine ⟨trivial, (callsIn_wide.2 HCL.out).mono ?_⟩
                  rintro e w4 ⟨o, co, rfl, ho4, hk4⟩
                  have hck4 := (hk4.cell (p := ⟨g, off + 8, none⟩) hgl (fun h => h)).trans hck
                  refine hK _ _ ?_
                  clear hK K
                  try simp only [Act.put, List.getElem_toArray, List.getElem_cons_zero, List.getElem_cons_succ, List.setIfInBounds_toArray, List.set_cons_zero, List.set_cons_succ]
                  refine wpAnyIn_ready (rs := [4]) (by kernel_rfl) (by simp) ?_
                  refine AllReadyIn.cons rfl (fun K hK => ?_) AllReadyIn.nil
                  go_simp
                  refine hK _ _ ?_
                  clear hK K
                  try simp only [Act.put, List.getElem_toArray, List.getElem_cons_zero, List.getElem_cons_succ, List.setIfInBounds_toArray, List.set_cons_zero, List.set_cons_succ]
                  refine wpAnyIn_take (i := 5) (v := ?_) rfl rfl (by kernel_rfl) (by kernel_rfl) (by kernel_rfl) (fun _ _ _ h => h) ⟨Or.inl ⟨by rfl, ?_⟩, fun _ => rfl⟩ ?_
                  rotate_left
                  · intro w
                    go_simp
                    try with_reducible rfl
                  try simp only [Act.put, List.getElem_toArray, List.getElem_cons_zero, List.getElem_cons_succ, List.setIfInBounds_toArray, List.set_cons_zero, List.set_cons_succ]
                  refine wpAnyIn_take (i := 9) (v := ?_) rfl rfl (by kernel_rfl) (by kernel_rfl) (by kernel_rfl) (fun _ _ _ h => h) ⟨Or.inl ⟨by rfl, ?_⟩, fun _ => rfl⟩ ?_
                  rotate_left
                  · intro w
                    go_simp
                    try with_reducible rfl
                  try simp only [Act.put, List.getElem_toArray, List.getElem_cons_zero, List.getElem_cons_succ, List.setIfInBounds_toArray, List.set_cons_zero, List.set_cons_succ]
                  have hx : ∃ x : Fi, x = ⟨(Fis.by pre).length + (9 + m), k.toNat, t.take m, o, co⟩ := ⟨_, rfl⟩
                  obtain ⟨x, hx⟩ := hx
                  have hv : x.vals = #[.int .i64 ((Fis.by pre).length + (9 + m) : Int), .agg #[.int .i64 k, .slice o m co]] := by rw [hx]; simp only [Fi.vals, Fi.frame, HDL.out, HK0.out]; rfl
                  have hj4 : J pre w4 := hJ pre U w4 none HJU.out (((Kp.refl _ U).drew).trans hk4).grown (fun r e => by cases e)
                  obtain ⟨fn, tmps, assign, body, hy, hR⟩ := hY pre x w4 hj4 (by rw [hx]; exact ⟨ho4.row, fun g' hg' => by have := ho4.from hg'; exact ⟨Nat.le_trans HUS.out this.1, this.2⟩⟩) HPN.out
                  rw [hv] at hy
                  have HXX := Lib.hid hx
                  have HO4 := Lib.hid ho4
                  have HK4 := Lib.hid hk4
                  clear hx hv hj4 ho4 hk4
                  refine wpAnyIn_ready (rs := [10]) (by kernel_rfl) (by simp) ?_
                  refine AllReadyIn.cons rfl (fun K hK => ?_) AllReadyIn.nil
                  go_simp
                  refine hR.mono ?_
                  rintro e w5 ⟨rfl, hJ5, hkb, hs5⟩
                  refine hK _ _ ?_
                  clear hK K
                  try simp only [Act.put, List.getElem_toArray, List.getElem_cons_zero, List.getElem_cons_succ, List.setIfInBounds_toArray, List.set_cons_zero, List.set_cons_succ]
                  refine wpAnyIn_take (i := 11) (v := ?_) rfl rfl (by kernel_rfl) (by kernel_rfl) (by kernel_rfl) (fun _ _ _ h => h) ⟨Or.inl ⟨by rfl, ?_⟩, fun _ => rfl⟩ ?_
                  rotate_left
                  · intro w
                    go_simp
                    try with_reducible rfl
                  try simp only [Act.put, List.getElem_toArray, List.getElem_cons_zero, List.getElem_cons_succ, List.setIfInBounds_toArray, List.set_cons_zero, List.set_cons_succ]
                  refine wpAnyIn_done (by kernel_rfl) ?_ _
                  clear hy hR
                  gi_wp2_with fail
                  refine ⟨?rel, ?meas⟩
                  case rel =>
                    obtain ⟨n1, n2, n3, n4, n5⟩ := frames_next HB.out HALL.out h9 HR.out HM.out HTL.out (HCV.out.trans (hcf.trans HFV.out.symm)) HM6.out HXX.out
                    rw [HRL.out] at n5
                    refine ⟨pre ++ [x], t.drop m, some ⟨g, off + (9 + m), none⟩, cr - (9 + m), congrArg (Value.int IntKind.i64) (by rw [n1]; exact cast9 _ _), n2, n3, n4, ?_, ?_, fun _ => ⟨off + (9 + m), rfl⟩, ?_, ?_, hJ5⟩
                    · rw [n5]
                      exact hkb.2.trans (HK4.out.heap (w := U.drew) HUB.out (fun h => h))
                    · exact rest_row HRU.out HRL.out n5 (hkb.1.trans (HK4.out.block g hgl (fun h => h)))
                    · rw [n5]
                      exact Nat.sub_le_sub_right hcr _
                    · exact Nat.le_trans (Nat.le_of_eq hW) (Nat.le_trans HUS.out (Nat.le_trans (HK4.out.size : U.drew.heap.size ≤ w4.heap.size) hs5))
                  case meas => exact meas9 HAB.out
            · gi_wp2_with fail
              refine bodyPost_ret (results_none rfl _ _ _) rfl ?_
              exact ⟨⟨_, rfl⟩, pre, HALL.out, HJ2.out⟩
    · have hgI : ¬ ((9 : Int) ≤ (r.length : Int)) := by omega
      have HB := Lib.hid hb
      have HALL := Lib.hid hall
      clear hb hall
      gi_wp2
      go_end0
      exact ⟨⟨_, rfl⟩, pre, HALL.out, hjw⟩
end Go.Proofs.YtecohkoekifeiaaGreatDoor
namespace Go.Proofs.YtecohkoekifeiaaGreatDoor
open Go.RowKit Go.Shelf
set_option linter.unusedVariables false

theorem info83 : (Tryz.prog.info? 83).map (fun i => (i.zero, i.size, i.bytes)) = some (some (.agg #[.int .i64 0, .slice none 0 0]), 2, 32) := by kernel_rfl

theorem wpListIn_app {F : Fence} {fn : Nat} {P : Program} {w : World} {ops : Array Oper} {rest : List Oper} {o : Oper} {ac : Act} {Q : Exit → Act → World → Prop} (hgd : o.guard = none) (s x : Operand) (t : TypeId)
    (ho : o.op = .call { callee := .builtin .append, args := #[s, x], argTypes := #[t, t] })
    (B : Nat) (e : TypeId) {size bytes : Nat} {z : Value} (hinfo : (P.info? e).map (fun i => (i.zero, i.size, i.bytes)) = some (some z, size, bytes)) (ht : P.underlying t = some (.slice e)) (hzs : z.cells.size = size) (hsz : 0 < size)
    {a : Option Addr} {n cap : Nat} {xs : List Value} (hs : ac.eval s = .slice a n cap) (hown : Owns w B e size a n cap xs)
    {ad : Addr} {m c : Nat} {news : List Value} (hx : ac.eval x = .slice (some ad) m c) (hl : news.length = m * size) (hnews : ∀ j u, news[j]? = some u → w.cell? (ad.add j) = some u) (h1 : ∀ u ∈ news, u.oneCell' = true)
    (h63 : n + m ≤ maxLen) (hbytes : (n + m) * bytes ≤ 140737488355328) (hbase : B ≤ w.heap.size)
    (h : ∀ a' cap' w', Owns w' B e size a' (n + m) cap' (xs ++ news) → Kp (fun k => some k = blockOf a) w w' → wpListIn F fn P ops Q rest (ac.put o.dst (.slice a' (n + m) cap')) w') : wpListIn F fn P ops Q (o :: rest) ac w := by
  obtain ⟨i, hi, hz0, hz1, hz2⟩ := info_parts hinfo
  refine wpListIn_append_own w hgd s x t ho B e i z size bytes ht hi hz0 hz1 hz2 hzs hsz _ n xs hs hown ad m c news hx hl hnews h1 h63 hbytes hbase ?_
  intro v' w' hown' hg _
  obtain ⟨a', cap', rfl, ho'⟩ := Owns.shape hown'
  refine h a' cap' w' ho' ?_
  have := Kp.of_grown hg
  rw [blockOf_own] at this
  exact this

def lastAt (l : List Fi) : Nat := (l.getLast?.map Fi.at_).getD 0
theorem lastAt_snoc (l : List Fi) (x : Fi) : lastAt (l ++ [x]) = x.at_ := by simp [lastAt]

/-- Scan's two results while its loop runs; of one frame alone it is known where it lies. -/
def ScI (B : Nat) (w : World) (b2 b3 : Nat) (pre : List Fi) (W : World) : Prop :=
  ∃ (oa : Option Addr) (co : Nat) (vs : List Value), W.heap[b2]? = some (.cells #[.slice oa pre.length co] 79 (0, 0)) ∧ W.heap[b3]? = some (.cells #[.int .i64 (lastAt pre)] 3 (0, 0)) ∧ Owns W B 83 2 oa pre.length co vs ∧
    (∀ x, pre = [x] → vs = [.int .i64 x.k, .slice x.ad x.d.length x.cap] ∧ Row W x.ad (bytes x.d) ∧ ∀ g, blockOf x.ad = some g → B ≤ g) ∧ Below w.heap.size w W ∧ B ≤ W.heap.size ∧ (pre = [] → oa = none)

theorem Owns.cells_at {w : World} {B : Nat} {e : TypeId} {size : Nat} {a : Option Addr} {n cap : Nat} {xs : List Value} (h : Owns w B e size a n cap xs) {g : Nat} (hg : blockOf a = some g) : ∃ cur, w.heap[g]? = some (.cells cur e (0, 0)) := by
  rcases h.2 with ⟨h2, _⟩ | ⟨g', cap', cur, hv, hge, hh, r⟩
  · simp only [Value.slice.injEq] at h2
    rw [h2.1] at hg
    cases hg
  · simp only [Value.slice.injEq] at hv
    rw [hv.1] at hg
    cases hg
    exact ⟨cur, hh⟩

theorem ScI.kp {B : Nat} {w A C : World} {b2 b3 : Nat} {pre : List Fi} (h : ScI B w b2 b3 pre A) {S : Nat → Prop} (k : Kp S A C) (h2 : ¬ S b2) (h3 : ¬ S b3)
    (hS : ∀ j, S j → B ≤ j → ∃ o : Obj, A.heap[j]? = some o ∧ o.isCells = false) (hw : ∀ j, j < w.heap.size → ¬ S j) : ScI B w b2 b3 pre C := by
  obtain ⟨oa, co, vs, e2, e3, ho, h1, hb, hB, hz⟩ := h
  have hno : ∀ g, B ≤ g → (∃ o : Obj, A.heap[g]? = some o ∧ o.isCells = true) → ¬ S g := by
    rintro g hg ⟨o, ho, hc⟩ hs
    obtain ⟨o', ho', hc'⟩ := hS g hs hg
    rw [ho] at ho'
    cases ho'
    rw [hc] at hc'
    cases hc'
  refine ⟨oa, co, vs, k.heap e2 h2, k.heap e3 h3, ho.kp k fun g hg => ?_, fun x hx => ?_, ?_, Nat.le_trans hB k.size, hz⟩
  · obtain ⟨cur, hcur⟩ := ho.cells_at hg
    exact hno g (ho.from hg).1 ⟨_, hcur, rfl⟩
  · obtain ⟨f1, f2, f3⟩ := h1 x hx
    refine ⟨f1, fun i v hv => ?_, f3⟩
    obtain ⟨g, off, e, hc⟩ := f2 i v hv
    refine ⟨g, off, e, ?_⟩
    obtain ⟨o, ho', hc'⟩ := cells_of_cell hc
    rw [k.cell (World.block_lt_of_cell? (a := ⟨g, off + i, none⟩) A hc) (hno g (f3 g (by rw [e]; rfl)) ⟨o, ho', hc'⟩)]
    exact hc
  · exact hb.trans ⟨k.os, k.tape, k.output, k.size, fun j hj => k.block j (Nat.lt_of_lt_of_le hj hb.size) (hw j hj)⟩

theorem ScI.own (B : Nat) (w : World) (b2 b3 : Nat) (h2 : b2 < B) (h3 : b3 < B) (hw : w.heap.size ≤ B) : OwnFrom B (ScI B w b2 b3) := by
  intro pre A C row h hg hr
  refine h.kp (Kp.of_grown hg) ?_ ?_ ?_ ?_
  · intro e
    have := (hr b2 e.symm).1
    omega
  · intro e
    have := (hr b3 e.symm).1
    omega
  · intro j e hj
    exact (hr j e.symm).2
  · intro j hj e
    have := (hr j e.symm).1
    omega

theorem ScI.box {B : Nat} {w A : World} {b2 b3 Bs : Nat} {pre : List Fi} (h : ScI B w b2 b3 pre A) (v : Value) (hs : Bs < B) (h2 : b2 ≠ Bs) (h3 : b3 ≠ Bs) (hw : w.heap.size ≤ Bs) : ScI B w b2 b3 pre (A.setCell ⟨Bs, 0, none⟩ v) :=
  h.kp ((Kp.refl (fun k => k = Bs) A).setCell (p := ⟨Bs, 0, none⟩) (.inl rfl) v) h2 h3 (fun j e hj => by omega) (fun j hj e => by omega)
theorem Kp.keeps {B : Nat} {W W1 : World} {S : Nat → Prop} (k : Kp S W W1) (hS : ∀ j o, S j → B ≤ j → W.heap[j]? = some o → o.isCells = true) : KeepsFrom B W W1 :=
  ⟨k.size, fun j o hj ho hc => k.heap ho (fun hs => by rw [hS j o hs hj ho] at hc; cases hc)⟩

theorem Fi.here.mono {B B' : Nat} {x : Fi} {W : World} (h : Fi.here B x W) (hb : B' ≤ B) : Fi.here B' x W := ⟨h.1, fun g hg => ⟨Nat.le_trans hb (h.2 g hg).1, (h.2 g hg).2⟩⟩

theorem Fi.here.kp {B : Nat} {x : Fi} {W W1 : World} (h : Fi.here B x W) {S : Nat → Prop} (k : Kp S W W1) (hS : ∀ j, B ≤ j → j < W.heap.size → ¬ S j) : Fi.here B x W1 :=
  ⟨h.1.kp k fun g hg => hS g (h.2 g hg).1 (h.2 g hg).2, fun g hg => ⟨(h.2 g hg).1, Nat.lt_of_lt_of_le (h.2 g hg).2 k.size⟩⟩

theorem Fi.here.obj {B : Nat} {x : Fi} {W : World} (h : Fi.here B x W) {l : Nat} {o : Obj} (o' : Obj) (hl : W.heap[l]? = some o) (hc : o.isCells = false) : Fi.here B x (W.putObj l o') := by
  refine ⟨fun i v hv => ?_, fun g hg => ⟨(h.2 g hg).1, ?_⟩⟩
  · obtain ⟨g, off, e, hx⟩ := h.1 i v hv
    obtain ⟨o2, ho2, hc2⟩ := cells_of_cell hx
    refine ⟨g, off, e, ?_⟩
    have hne : g ≠ l := by
      rintro rfl
      rw [hl] at ho2
      cases ho2
      rw [hc] at hc2
      cases hc2
    exact (World.cell?_of_block (w := W) (a := ⟨g, off + i, none⟩) (World.putObj_heap_other hne)).trans hx
  · have := (h.2 g hg).2
    simpa [World.putObj] using this

theorem frames_told (n : Nat) (hn : 1 ≤ n) (w : World) (Bs g : Nat) (b : List Int) (hB : Byte b) (hlen : b.length ≤ 140737488351232) (hne : g ≠ Bs) (off : Nat) (a : Option Addr) (c : Nat)
    (hbs : w.heap[Bs]? = some (.cells #[.slice a b.length c] 22 (0, 0))) (hr : Row w a (bytes b)) (ha : b ≠ [] → a = some ⟨g, off, none⟩) (hcap : b.length ≤ c) :
    Told Fence.wide n Tryz.prog 62 #[.pointer (some ⟨Bs, 0, none⟩)] Fi.vals (fun A C => KB g Bs A C ∧ A.heap.size ≤ C.heap.size) (fun x W => Fi.here w.heap.size x W) ⟨Bs, 0, none⟩ (Fis.all b) b.length w := by
  intro l J W hW hJ hJs hY h0
  exact frames1_in n hn l Bs W.heap.size g b hB hlen J W rfl hJ hJs (fun pre x W1 hj hh hN => hY pre x W1 hj (hh.mono hW.size) hN) hne off a c ((hW.block Bs (lt_of_block hbs)).trans hbs)
    (fun i v hv => by obtain ⟨g', off', e, hc⟩ := hr i v hv; exact ⟨g', off', e, (hW.cell (p := ⟨g', off' + i, none⟩) (World.block_lt_of_cell? (a := ⟨g', off' + i, none⟩) w hc)).trans hc⟩) ha hcap h0
end Go.Proofs.YtecohkoekifeiaaGreatDoor
