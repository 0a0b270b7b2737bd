/-
  message.Get, walked once.
-/
import Derived.Test.YtecohkoekifeiaaGreatDoorXi
import Derived.LoopN
set_option linter.all false
namespace Go.Proofs.YtecohkoekifeiaaGreatDoor
open Go.ChangeShapes Go.WideShapes Go.ChangeAt Go.RowKit
set_option linter.unusedVariables false
set_option linter.unusedSimpArgs false

@[local go_sem] theorem idy71_0 (v0 v1 v2 v3 v4 v5 v6 v7 : Value) (w : World) : (Instr.index 71 (.agg #[v0, v1, v2, v3, v4, v5, v6, v7]) (.int .i64 0)).run Tryz.prog w = .ok v0 w := by kernel_rfl
@[local go_sem] theorem idy71_1 (v0 v1 v2 v3 v4 v5 v6 v7 : Value) (w : World) : (Instr.index 71 (.agg #[v0, v1, v2, v3, v4, v5, v6, v7]) (.int .i64 1)).run Tryz.prog w = .ok v1 w := by kernel_rfl
@[local go_sem] theorem idy71_2 (v0 v1 v2 v3 v4 v5 v6 v7 : Value) (w : World) : (Instr.index 71 (.agg #[v0, v1, v2, v3, v4, v5, v6, v7]) (.int .i64 2)).run Tryz.prog w = .ok v2 w := by kernel_rfl
@[local go_sem] theorem idy71_3 (v0 v1 v2 v3 v4 v5 v6 v7 : Value) (w : World) : (Instr.index 71 (.agg #[v0, v1, v2, v3, v4, v5, v6, v7]) (.int .i64 3)).run Tryz.prog w = .ok v3 w := by kernel_rfl
@[local go_sem] theorem idy71_4 (v0 v1 v2 v3 v4 v5 v6 v7 : Value) (w : World) : (Instr.index 71 (.agg #[v0, v1, v2, v3, v4, v5, v6, v7]) (.int .i64 4)).run Tryz.prog w = .ok v4 w := by kernel_rfl
@[local go_sem] theorem idy71_5 (v0 v1 v2 v3 v4 v5 v6 v7 : Value) (w : World) : (Instr.index 71 (.agg #[v0, v1, v2, v3, v4, v5, v6, v7]) (.int .i64 5)).run Tryz.prog w = .ok v5 w := by kernel_rfl
@[local go_sem] theorem idy71_6 (v0 v1 v2 v3 v4 v5 v6 v7 : Value) (w : World) : (Instr.index 71 (.agg #[v0, v1, v2, v3, v4, v5, v6, v7]) (.int .i64 6)).run Tryz.prog w = .ok v6 w := by kernel_rfl
@[local go_sem] theorem idy71_7 (v0 v1 v2 v3 v4 v5 v6 v7 : Value) (w : World) : (Instr.index 71 (.agg #[v0, v1, v2, v3, v4, v5, v6, v7]) (.int .i64 7)).run Tryz.prog w = .ok v7 w := by kernel_rfl

theorem enc_yes {y : Nat} (h : y ≤ 1) : enc y = yby ((y : Int) == 1) := by
  rcases (by omega : y = 0 ∨ y = 1) with rfl | rfl
  · simp [enc, le_zero, yby]
  · rw [enc, le_pos (by omega), le_zero]
    simp [yby]
/-- Get's two results while it reads. -/
structure GI (w : World) (rb : Nat) (G : Option Nat) (cs : Array Value) (q : Rd) (a : Option Addr) (c : Nat) (V : World) : Prop where
  msg : V.heap[w.heap.size]? = some (.cells cs 37 (0, 0))
  err : V.heap[w.heap.size + 1]? = some (.cells #[.int .i64 0] 25 (0, 0))
  rd : Rdr V rb G q a c
  rb_ : w.heap.size + 2 ≤ rb
  g_ : ∀ g, G = some g → w.heap.size + 2 ≤ g
  kp : Kp (fun j => w.heap.size ≤ j) w V
  gl : ∀ g, G = some g → g < V.heap.size

theorem GI.call {w : World} {rb : Nat} {G : Option Nat} {cs : Array Value} {q : Rd} {a : Option Addr} {c : Nat} {V V' : World} (h : GI w rb G cs q a c V) (k : Kp (fun _ => False) V V') : GI w rb G cs q a c V' :=
  ⟨k.heap h.msg (fun h => h), k.heap h.err (fun h => h), h.rd.kp k (fun h => h) (fun _ _ h => h), h.rb_, h.g_, h.kp.andThen k (fun _ _ h => h.elim), fun g hg => Nat.lt_of_lt_of_le (h.gl g hg) k.size⟩
theorem GI.step {w : World} {rb : Nat} {G : Option Nat} {cs : Array Value} {q q' : Rd} {a a' : Option Addr} {c c' : Nat} {V V' : World} (h : GI w rb G cs q a c V) (k : Kp (fun j => j = rb) V V') (hr : Rdr V' rb G q' a' c') : GI w rb G cs q' a' c' V' :=
  ⟨k.heap h.msg (by have := h.rb_; omega), k.heap h.err (by have := h.rb_; omega), hr, h.rb_, h.g_, h.kp.andThen k (fun _ _ e => by have := h.rb_; omega), fun g hg => Nat.lt_of_lt_of_le (h.gl g hg) k.size⟩
theorem GI.set {w : World} {rb : Nat} {G : Option Nat} {cs : Array Value} {q : Rd} {a : Option Addr} {c : Nat} {V : World} (h : GI w rb G cs q a c V) (n : Nat) (v : Value) : GI w rb G (cs.setIfInBounds n v) q a c (V.setCell ⟨w.heap.size, n, none⟩ v) := by
  have k : Kp (fun j => j = w.heap.size) V (V.setCell ⟨w.heap.size, n, none⟩ v) := (Kp.refl (fun j => j = w.heap.size) V).setCell (p := ⟨w.heap.size, n, none⟩) (.inl rfl) v
  exact ⟨heap_set h.msg n v, k.heap h.err (by omega), h.rd.kp k (by have := h.rb_; omega) (fun g hg => by have := h.g_ g hg; omega), h.rb_, h.g_, h.kp.andThen k (fun _ _ e => by omega), fun g hg => Nat.lt_of_lt_of_le (h.gl g hg) k.size⟩

theorem GI.kpS {w : World} {rb : Nat} {G : Option Nat} {cs : Array Value} {q : Rd} {a : Option Addr} {c : Nat} {V V' : World} (h : GI w rb G cs q a c V) {S : Nat → Prop} (k : Kp S V V') (h0 : ¬ S w.heap.size) (h1 : ¬ S (w.heap.size + 1)) (h2 : ¬ S rb) (h3 : ∀ g, G = some g → ¬ S g) (h4 : ∀ j, S j → w.heap.size ≤ j) : GI w rb G cs q a c V' :=
  ⟨k.heap h.msg h0, k.heap h.err h1, h.rd.kp k h2 h3, h.rb_, h.g_, h.kp.andThen k (fun j _ e => h4 j e), fun g hg => Nat.lt_of_lt_of_le (h.gl g hg) k.size⟩

theorem info24 : (Tryz.prog.info? 24).map (fun i => (i.zero, i.size, i.bytes)) = some (some (.agg #[.int .i64 0, .int .i64 0, .int .i64 0, .slice none 0 0]), 4, 48) := by kernel_rfl

/-- The entries that have come. -/
def EI (w : World) (rb : Nat) (G : Option Nat) (B : Nat) (cs : Value → Array Value) (q0 : Rd) (j : Nat) (V : World) : Prop :=
  ∃ (es : List Ep) (oe : Option Addr) (ce : Nat) (q : Rd) (aq : Option Addr) (cq : Nat), es.length = j ∧ GI w rb G (cs (.slice oe j ce)) q aq cq V ∧ Byte q.b ∧ q.b.length ≤ 16777216 ∧ Owns V B 24 4 oe j ce (es.flatMap Ep.cells) ∧
    (∀ e ∈ es, Owns V B 5 1 e.a e.x.data.length e.c (bytes e.x.data) ∧ okE e.x = true ∧ Byte e.x.data ∧ e.x.data.length ≤ 1048576) ∧ (q.e = 0 → q0.e = 0 ∧ q0.b = eby es ++ q.b) ∧ B ≤ V.heap.size

theorem Owns.row4 {w : World} {B n cap : Nat} {a : Option Addr} {vs : List Value} (h : Owns w B 24 4 a n cap vs) : Row w a vs := by
  intro i v hv
  obtain ⟨g, e, hc⟩ := h.cell hv
  exact ⟨g, 0, e, by rw [Nat.zero_add]; exact hc⟩

theorem owns_ne {V : World} {B B' : Nat} {a a' : Option Addr} {n n' c c' : Nat} {xs xs' : List Value} (h : Owns V B 5 1 a n c xs) (h' : Owns V B' 24 4 a' n' c' xs') : ∀ g, blockOf a = some g → ¬ (some g = blockOf a') := by
  intro g hg hg'
  obtain ⟨_, h1⟩ := h.cells_at hg
  obtain ⟨_, h2⟩ := h'.cells_at hg'.symm
  rw [h1] at h2
  cases h2

/-- What message.Get tells. -/
def GetMAt (b : List Int) (w : World) (e : Ending) (w' : World) : Prop :=
  Kp (fun _ => False) w w' ∧ (e = .returned (.tuple #[.agg noMsg, .int .i64 21]) ∨
    ∃ (k f t m a b' c d : Nat) (yes : Bool) (oe os od : Option Addr) (ce cs cd : Nat) (es : List Ep) (xs bs dd : List Int), b = mby k f t m a b' c d yes (es.map Ep.x) bs dd ∧ okM k f t m a b' c d es.length xs.length dd.length ∧
      Eps w' oe es ∧ Row w' os (ints xs) ∧ Row w' od (bytes dd) ∧ (k = 5 → srv xs = some bs) ∧ (∀ e ∈ es, okE e.x = true ∧ Byte e.x.data ∧ e.x.data.length ≤ 1048576) ∧
      e = .returned (.tuple #[.agg #[.int .i64 k, .int .i64 f, .int .i64 t, .int .i64 m, .int .i64 a, .int .i64 b', .int .i64 c, .int .i64 d, .bool yes, .slice oe es.length ce, .slice os xs.length cs, .slice od dd.length cd], .int .i64 0]))

set_option maxRecDepth 100000 in
theorem get_panic {w V : World} {b : List Int} {x0 x1 x2 x3 x4 x5 x6 x7 x8 x9 x10 x11 : Value} {m : Int} {tmps : Array Value} (h1 : V.heap[w.heap.size]? = some (.cells #[x0, x1, x2, x3, x4, x5, x6, x7, x8, x9, x10, x11] 37 (0, 0))) (h2 : V.heap[w.heap.size + 1]? = some (.cells #[.int .i64 m] 25 (0, 0))) (hk : Kp (fun j => w.heap.size ≤ j) w V)
    (t2 : tmps[2]?.getD undef = .pointer (some ⟨w.heap.size, 0, none⟩)) (t3 : tmps[3]?.getD undef = .pointer (some ⟨w.heap.size + 1, 0, none⟩)) :
    Leaves Tryz.prog Tryz.f9 tmps (GetMAt b w) [{ target := .fn (.func 28) #[], args := #[.pointer (some ⟨w.heap.size, 0, none⟩), .pointer (some ⟨w.heap.size + 1, 0, none⟩)] }] (.panicking [{ v := .iface 25 (.int .i64 21), recovered := false }]) V := by
  refine leaves_cons (f := 28) (args := #[.pointer (some ⟨w.heap.size, 0, none⟩), .pointer (some ⟨w.heap.size + 1, 0, none⟩)]) (by simp) (by simp [go_sem]) ?_
  refine (caught28_panics w.heap.size (w.heap.size + 1) 21 m x0 x1 x2 x3 x4 x5 x6 x7 x8 x9 x10 x11 [] V h1 h2 (by omega)).mono ?_
  rintro e u' w9 ⟨rfl, rfl, z1, z2, hk9⟩
  have hf : GetMAt b w (.returned (.tuple #[.agg noMsg, .int .i64 21])) w9 := ⟨(hk.andThen hk9 (fun i hi e => by omega)).fin, .inl rfl⟩
  unfold noMsg at z1
  have y0 := cell_of z1 0 (v := .int .i64 0) rfl
  have y1 := cell_of z1 1 (v := .int .i64 0) rfl
  have y2 := cell_of z1 2 (v := .int .i64 0) rfl
  have y3 := cell_of z1 3 (v := .int .i64 0) rfl
  have y4 := cell_of z1 4 (v := .int .i64 0) rfl
  have y5 := cell_of z1 5 (v := .int .i64 0) rfl
  have y6 := cell_of z1 6 (v := .int .i64 0) rfl
  have y7 := cell_of z1 7 (v := .int .i64 0) rfl
  have y8 := cell_of z1 8 (v := .bool false) rfl
  have y9 := cell_of z1 9 (v := .slice none 0 0) rfl
  have y10 := cell_of z1 10 (v := .slice none 0 0) rfl
  have y11 := cell_of z1 11 (v := .slice none 0 0) rfl
  have y12 := cell_of z2 0 (v := .int .i64 21) rfl
  refine ⟨.tuple #[.agg noMsg, .int .i64 21], ?_, hf⟩
  simp [results, Tryz.results9, go_sem, noMsg, t2, t3, y0, y1, y2, y3, y4, y5, y6, y7, y8, y9, y10, y11, y12]

set_option maxRecDepth 100000 in
set_option maxHeartbeats 4000000 in
theorem mGet_any {w : World} {a : Option Addr} {b : List Int} (h : Row w a (bytes b)) (hB : Byte b) (hm : b.length ≤ 16777216) (c : Nat) : Calls Tryz.prog 9 #[.slice a b.length c] w (GetMAt b w) := by
  have HN := Lib.hid (fun (u : World) (hu : Kp (fun _ => False) w u) => new_in (h.no hu) (by omega) c)
  have HF := Lib.hid (fun u => fields_any u w.heap.size)
  have HB := Lib.hid hB
  have HM := Lib.hid hm
  clear h
  go_enter_defers Tryz.func9, Tryz.ntmps9
  go_wp2_with (go_at_call 19; refine Stop.mk ?_)
  unfold Stop
  obtain ⟨V, hV⟩ : ∃ V, V = (w.alloc (.cells noMsg 37)).alloc (.cells #[.int .i64 0] 25) := ⟨_, rfl⟩
  have kV : Kp (fun _ => False) w V := by rw [hV]; exact ((Kp.refl _ w).alloc _).alloc _
  have b1 : V.heap[w.heap.size]? = some (.cells #[.int .i64 0, .int .i64 0, .int .i64 0, .int .i64 0, .int .i64 0, .int .i64 0, .int .i64 0, .int .i64 0, .bool false, .slice none 0 0, .slice none 0 0, .slice none 0 0] 37 (0, 0)) := by rw [hV]; exact heap_old _ (heap_new w _)
  have b2 : V.heap[w.heap.size + 1]? = some (.cells #[.int .i64 0] 25 (0, 0)) := by
    rw [hV]
    have := heap_new (w.alloc (.cells noMsg 37)) (.cells #[.int .i64 0] 25)
    rw [World.size_alloc] at this
    exact this
  have sV : V.heap.size = w.heap.size + 2 := by rw [hV]; simp
  change Calls Tryz.prog 19 _ ((w.alloc (.cells noMsg 37)).alloc (.cells #[.int .i64 0] 25)) _
  rw [← hV]
  clear hV
  refine (HN.out V kV).mono ?_
  rintro e w1 ⟨rb, G, o1, co1, rfl, hr1, hrb, hG, hk1⟩
  have hg0 : GI w rb G #[.int .i64 0, .int .i64 0, .int .i64 0, .int .i64 0, .int .i64 0, .int .i64 0, .int .i64 0, .int .i64 0, .bool false, .slice none 0 0, .slice none 0 0, .slice none 0 0] ⟨0, b⟩ o1 co1 w1 := ⟨hk1.heap b1 (fun h => h), hk1.heap b2 (fun h => h), hr1, by omega, fun g hg => by have := (hG g hg).1; omega, (kV.mono (S' := fun j => w.heap.size ≤ j) (fun _ _ h => h.elim)).andThen hk1 (fun _ _ h => h.elim), fun g hg => (hG g hg).2⟩
  have HGS := Lib.hid (⟨lt_of_block hr1.blk, fun g hg => (hG g hg).2⟩ : rb < w1.heap.size ∧ ∀ g, G = some g → g < w1.heap.size)
  have HG0 := Lib.hid hg0
  clear hg0 hr1 hG hk1 b1 b2 kV sV HN
  go_wp2_with (go_at_call 29; refine Stop.mk ?_)
  unfold Stop
  refine (HF.out _).mono ?_
  rintro e w2 ⟨rfl, hk2⟩
  have hg := HG0.out.call hk2
  have HGs := Lib.hid (⟨Nat.lt_of_lt_of_le HGS.out.1 hk2.size, fun g hg => Nat.lt_of_lt_of_le (HGS.out.2 g hg) hk2.size⟩ : rb < w2.heap.size ∧ ∀ g, G = some g → g < w2.heap.size)
  have HW0 := Lib.hid hg
  clear hk2 HG0 HF hg HGS
  unfold ptrs
  go_wp2_with fail
  refine wp_loop_rounds 9 ?_
  have hby := HB.out
  have hln : b.length ≤ 16777216 := HM.out
  generalize hq0 : (⟨0, b⟩ : Rd) = q0 at HW0
  have hbq : Byte q0.b := by rw [← hq0]; exact hby
  have hlq : q0.b.length ≤ 16777216 := by rw [← hq0]; exact hln
  have HQ0 := Lib.hid hq0
  clear hby hln hq0
  rw [rounds_succ]
  go_wp2_with (go_at_call 20; refine Stop.mk ?_)
  unfold Stop
  refine (num_reads HW0.out.rd hbq (by omega)).mono ?_
  rintro e u0 ⟨rfl, a0, c0, hr0, hk0⟩
  have hb0 := Rd.num_byte hbq
  have hl0 := Nat.le_trans (num_lt (r := q0)) hlq
  have ht0 := num_48 hbq
  have ho0 := Rd.num_ok hbq
  have he0 := @Rd.num_e q0
  have hgi0 := HW0.out.step hk0 hr0
  clear hr0 hk0 hbq hlq
  generalize q0.num = qq at hb0 hl0 ht0 ho0 he0 hgi0 ⊢
  obtain ⟨k, q1⟩ := qq
  dsimp only at hb0 hl0 ht0 ho0 he0 hgi0 ⊢
  have HO0 := Lib.hid (⟨ho0, he0, ht0⟩ : (q1.e = 0 → q0.b = enc k ++ q1.b ∧ k < 2 ^ 48) ∧ (q1.e = 0 → q0.e = 0) ∧ k < 281474976710656)
  have cc := cell_of hgi0.msg 0 (v := .int .i64 0) rfl
  have ff := free_of hgi0.msg 0
  have hgn : GI w rb G #[.int .i64 k, .int .i64 0, .int .i64 0, .int .i64 0, .int .i64 0, .int .i64 0, .int .i64 0, .int .i64 0, .bool false, .slice none 0 0, .slice none 0 0, .slice none 0 0] q1 a0 c0 (u0.setCell ⟨w.heap.size, 0, none⟩ (.int .i64 k)) := hgi0.set 0 (.int .i64 k)
  have HW1 := Lib.hid hgn
  clear ht0 ho0 he0 hgi0 hgn HW0
  go_wp2_with fail
  clear cc ff
  generalize hV0 : u0.setCell ⟨w.heap.size, 0, none⟩ (.int .i64 k) = V0 at HW1 ⊢
  clear hV0
  rw [rounds_succ]
  go_wp2_with (go_at_call 20; refine Stop.mk ?_)
  unfold Stop
  refine (num_reads HW1.out.rd hb0 (by omega)).mono ?_
  rintro e u1 ⟨rfl, a1, c1, hr1, hk1⟩
  have hb1 := Rd.num_byte hb0
  have hl1 := Nat.le_trans (num_lt (r := q1)) hl0
  have ht1 := num_48 hb0
  have ho1 := Rd.num_ok hb0
  have he1 := @Rd.num_e q1
  have hgi1 := HW1.out.step hk1 hr1
  clear hr1 hk1 hb0 hl0
  generalize q1.num = qq at hb1 hl1 ht1 ho1 he1 hgi1 ⊢
  obtain ⟨f, q2⟩ := qq
  dsimp only at hb1 hl1 ht1 ho1 he1 hgi1 ⊢
  have HO1 := Lib.hid (⟨ho1, he1, ht1⟩ : (q2.e = 0 → q1.b = enc f ++ q2.b ∧ f < 2 ^ 48) ∧ (q2.e = 0 → q1.e = 0) ∧ f < 281474976710656)
  have cc := cell_of hgi1.msg 1 (v := .int .i64 0) rfl
  have ff := free_of hgi1.msg 1
  have hgn : GI w rb G #[.int .i64 k, .int .i64 f, .int .i64 0, .int .i64 0, .int .i64 0, .int .i64 0, .int .i64 0, .int .i64 0, .bool false, .slice none 0 0, .slice none 0 0, .slice none 0 0] q2 a1 c1 (u1.setCell ⟨w.heap.size, 1, none⟩ (.int .i64 f)) := hgi1.set 1 (.int .i64 f)
  have HW2 := Lib.hid hgn
  clear ht1 ho1 he1 hgi1 hgn HW1
  go_wp2_with fail
  clear cc ff
  generalize hV1 : u1.setCell ⟨w.heap.size, 1, none⟩ (.int .i64 f) = V1 at HW2 ⊢
  clear hV1
  rw [rounds_succ]
  go_wp2_with (go_at_call 20; refine Stop.mk ?_)
  unfold Stop
  refine (num_reads HW2.out.rd hb1 (by omega)).mono ?_
  rintro e u2 ⟨rfl, a2, c2, hr2, hk2⟩
  have hb2 := Rd.num_byte hb1
  have hl2 := Nat.le_trans (num_lt (r := q2)) hl1
  have ht2 := num_48 hb1
  have ho2 := Rd.num_ok hb1
  have he2 := @Rd.num_e q2
  have hgi2 := HW2.out.step hk2 hr2
  clear hr2 hk2 hb1 hl1
  generalize q2.num = qq at hb2 hl2 ht2 ho2 he2 hgi2 ⊢
  obtain ⟨t, q3⟩ := qq
  dsimp only at hb2 hl2 ht2 ho2 he2 hgi2 ⊢
  have HO2 := Lib.hid (⟨ho2, he2, ht2⟩ : (q3.e = 0 → q2.b = enc t ++ q3.b ∧ t < 2 ^ 48) ∧ (q3.e = 0 → q2.e = 0) ∧ t < 281474976710656)
  have cc := cell_of hgi2.msg 2 (v := .int .i64 0) rfl
  have ff := free_of hgi2.msg 2
  have hgn : GI w rb G #[.int .i64 k, .int .i64 f, .int .i64 t, .int .i64 0, .int .i64 0, .int .i64 0, .int .i64 0, .int .i64 0, .bool false, .slice none 0 0, .slice none 0 0, .slice none 0 0] q3 a2 c2 (u2.setCell ⟨w.heap.size, 2, none⟩ (.int .i64 t)) := hgi2.set 2 (.int .i64 t)
  have HW3 := Lib.hid hgn
  clear ht2 ho2 he2 hgi2 hgn HW2
  go_wp2_with fail
  clear cc ff
  generalize hV2 : u2.setCell ⟨w.heap.size, 2, none⟩ (.int .i64 t) = V2 at HW3 ⊢
  clear hV2
  rw [rounds_succ]
  go_wp2_with (go_at_call 20; refine Stop.mk ?_)
  unfold Stop
  refine (num_reads HW3.out.rd hb2 (by omega)).mono ?_
  rintro e u3 ⟨rfl, a3, c3, hr3, hk3⟩
  have hb3 := Rd.num_byte hb2
  have hl3 := Nat.le_trans (num_lt (r := q3)) hl2
  have ht3 := num_48 hb2
  have ho3 := Rd.num_ok hb2
  have he3 := @Rd.num_e q3
  have hgi3 := HW3.out.step hk3 hr3
  clear hr3 hk3 hb2 hl2
  generalize q3.num = qq at hb3 hl3 ht3 ho3 he3 hgi3 ⊢
  obtain ⟨m, q4⟩ := qq
  dsimp only at hb3 hl3 ht3 ho3 he3 hgi3 ⊢
  have HO3 := Lib.hid (⟨ho3, he3, ht3⟩ : (q4.e = 0 → q3.b = enc m ++ q4.b ∧ m < 2 ^ 48) ∧ (q4.e = 0 → q3.e = 0) ∧ m < 281474976710656)
  have cc := cell_of hgi3.msg 3 (v := .int .i64 0) rfl
  have ff := free_of hgi3.msg 3
  have hgn : GI w rb G #[.int .i64 k, .int .i64 f, .int .i64 t, .int .i64 m, .int .i64 0, .int .i64 0, .int .i64 0, .int .i64 0, .bool false, .slice none 0 0, .slice none 0 0, .slice none 0 0] q4 a3 c3 (u3.setCell ⟨w.heap.size, 3, none⟩ (.int .i64 m)) := hgi3.set 3 (.int .i64 m)
  have HW4 := Lib.hid hgn
  clear ht3 ho3 he3 hgi3 hgn HW3
  go_wp2_with fail
  clear cc ff
  generalize hV3 : u3.setCell ⟨w.heap.size, 3, none⟩ (.int .i64 m) = V3 at HW4 ⊢
  clear hV3
  rw [rounds_succ]
  go_wp2_with (go_at_call 20; refine Stop.mk ?_)
  unfold Stop
  refine (num_reads HW4.out.rd hb3 (by omega)).mono ?_
  rintro e u4 ⟨rfl, a4, c4, hr4, hk4⟩
  have hb4 := Rd.num_byte hb3
  have hl4 := Nat.le_trans (num_lt (r := q4)) hl3
  have ht4 := num_48 hb3
  have ho4 := Rd.num_ok hb3
  have he4 := @Rd.num_e q4
  have hgi4 := HW4.out.step hk4 hr4
  clear hr4 hk4 hb3 hl3
  generalize q4.num = qq at hb4 hl4 ht4 ho4 he4 hgi4 ⊢
  obtain ⟨na, q5⟩ := qq
  dsimp only at hb4 hl4 ht4 ho4 he4 hgi4 ⊢
  have HO4 := Lib.hid (⟨ho4, he4, ht4⟩ : (q5.e = 0 → q4.b = enc na ++ q5.b ∧ na < 2 ^ 48) ∧ (q5.e = 0 → q4.e = 0) ∧ na < 281474976710656)
  have cc := cell_of hgi4.msg 4 (v := .int .i64 0) rfl
  have ff := free_of hgi4.msg 4
  have hgn : GI w rb G #[.int .i64 k, .int .i64 f, .int .i64 t, .int .i64 m, .int .i64 na, .int .i64 0, .int .i64 0, .int .i64 0, .bool false, .slice none 0 0, .slice none 0 0, .slice none 0 0] q5 a4 c4 (u4.setCell ⟨w.heap.size, 4, none⟩ (.int .i64 na)) := hgi4.set 4 (.int .i64 na)
  have HW5 := Lib.hid hgn
  clear ht4 ho4 he4 hgi4 hgn HW4
  go_wp2_with fail
  clear cc ff
  generalize hV4 : u4.setCell ⟨w.heap.size, 4, none⟩ (.int .i64 na) = V4 at HW5 ⊢
  clear hV4
  rw [rounds_succ]
  go_wp2_with (go_at_call 20; refine Stop.mk ?_)
  unfold Stop
  refine (num_reads HW5.out.rd hb4 (by omega)).mono ?_
  rintro e u5 ⟨rfl, a5, c5, hr5, hk5⟩
  have hb5 := Rd.num_byte hb4
  have hl5 := Nat.le_trans (num_lt (r := q5)) hl4
  have ht5 := num_48 hb4
  have ho5 := Rd.num_ok hb4
  have he5 := @Rd.num_e q5
  have hgi5 := HW5.out.step hk5 hr5
  clear hr5 hk5 hb4 hl4
  generalize q5.num = qq at hb5 hl5 ht5 ho5 he5 hgi5 ⊢
  obtain ⟨nb, q6⟩ := qq
  dsimp only at hb5 hl5 ht5 ho5 he5 hgi5 ⊢
  have HO5 := Lib.hid (⟨ho5, he5, ht5⟩ : (q6.e = 0 → q5.b = enc nb ++ q6.b ∧ nb < 2 ^ 48) ∧ (q6.e = 0 → q5.e = 0) ∧ nb < 281474976710656)
  have cc := cell_of hgi5.msg 5 (v := .int .i64 0) rfl
  have ff := free_of hgi5.msg 5
  have hgn : GI w rb G #[.int .i64 k, .int .i64 f, .int .i64 t, .int .i64 m, .int .i64 na, .int .i64 nb, .int .i64 0, .int .i64 0, .bool false, .slice none 0 0, .slice none 0 0, .slice none 0 0] q6 a5 c5 (u5.setCell ⟨w.heap.size, 5, none⟩ (.int .i64 nb)) := hgi5.set 5 (.int .i64 nb)
  have HW6 := Lib.hid hgn
  clear ht5 ho5 he5 hgi5 hgn HW5
  go_wp2_with fail
  clear cc ff
  generalize hV5 : u5.setCell ⟨w.heap.size, 5, none⟩ (.int .i64 nb) = V5 at HW6 ⊢
  clear hV5
  rw [rounds_succ]
  go_wp2_with (go_at_call 20; refine Stop.mk ?_)
  unfold Stop
  refine (num_reads HW6.out.rd hb5 (by omega)).mono ?_
  rintro e u6 ⟨rfl, a6, c6, hr6, hk6⟩
  have hb6 := Rd.num_byte hb5
  have hl6 := Nat.le_trans (num_lt (r := q6)) hl5
  have ht6 := num_48 hb5
  have ho6 := Rd.num_ok hb5
  have he6 := @Rd.num_e q6
  have hgi6 := HW6.out.step hk6 hr6
  clear hr6 hk6 hb5 hl5
  generalize q6.num = qq at hb6 hl6 ht6 ho6 he6 hgi6 ⊢
  obtain ⟨nc, q7⟩ := qq
  dsimp only at hb6 hl6 ht6 ho6 he6 hgi6 ⊢
  have HO6 := Lib.hid (⟨ho6, he6, ht6⟩ : (q7.e = 0 → q6.b = enc nc ++ q7.b ∧ nc < 2 ^ 48) ∧ (q7.e = 0 → q6.e = 0) ∧ nc < 281474976710656)
  have cc := cell_of hgi6.msg 6 (v := .int .i64 0) rfl
  have ff := free_of hgi6.msg 6
  have hgn : GI w rb G #[.int .i64 k, .int .i64 f, .int .i64 t, .int .i64 m, .int .i64 na, .int .i64 nb, .int .i64 nc, .int .i64 0, .bool false, .slice none 0 0, .slice none 0 0, .slice none 0 0] q7 a6 c6 (u6.setCell ⟨w.heap.size, 6, none⟩ (.int .i64 nc)) := hgi6.set 6 (.int .i64 nc)
  have HW7 := Lib.hid hgn
  clear ht6 ho6 he6 hgi6 hgn HW6
  go_wp2_with fail
  clear cc ff
  generalize hV6 : u6.setCell ⟨w.heap.size, 6, none⟩ (.int .i64 nc) = V6 at HW7 ⊢
  clear hV6
  rw [rounds_succ]
  go_wp2_with (go_at_call 20; refine Stop.mk ?_)
  unfold Stop
  refine (num_reads HW7.out.rd hb6 (by omega)).mono ?_
  rintro e u7 ⟨rfl, a7, c7, hr7, hk7⟩
  have hb7 := Rd.num_byte hb6
  have hl7 := Nat.le_trans (num_lt (r := q7)) hl6
  have ht7 := num_48 hb6
  have ho7 := Rd.num_ok hb6
  have he7 := @Rd.num_e q7
  have hgi7 := HW7.out.step hk7 hr7
  clear hr7 hk7 hb6 hl6
  generalize q7.num = qq at hb7 hl7 ht7 ho7 he7 hgi7 ⊢
  obtain ⟨nd, q8⟩ := qq
  dsimp only at hb7 hl7 ht7 ho7 he7 hgi7 ⊢
  have HO7 := Lib.hid (⟨ho7, he7, ht7⟩ : (q8.e = 0 → q7.b = enc nd ++ q8.b ∧ nd < 2 ^ 48) ∧ (q8.e = 0 → q7.e = 0) ∧ nd < 281474976710656)
  have cc := cell_of hgi7.msg 7 (v := .int .i64 0) rfl
  have ff := free_of hgi7.msg 7
  have hgn : GI w rb G #[.int .i64 k, .int .i64 f, .int .i64 t, .int .i64 m, .int .i64 na, .int .i64 nb, .int .i64 nc, .int .i64 nd, .bool false, .slice none 0 0, .slice none 0 0, .slice none 0 0] q8 a7 c7 (u7.setCell ⟨w.heap.size, 7, none⟩ (.int .i64 nd)) := hgi7.set 7 (.int .i64 nd)
  have HW8 := Lib.hid hgn
  clear ht7 ho7 he7 hgi7 hgn HW7
  go_wp2_with fail
  clear cc ff
  generalize hV7 : u7.setCell ⟨w.heap.size, 7, none⟩ (.int .i64 nd) = V7 at HW8 ⊢
  clear hV7
  rw [rounds_succ]
  go_wp2_with (go_at_call 20; refine Stop.mk ?_)
  unfold Stop
  refine (num_reads HW8.out.rd hb7 (by omega)).mono ?_
  rintro e u8 ⟨rfl, a8, c8, hr8, hk8⟩
  have hb8 := Rd.num_byte hb7
  have hl8 := Nat.le_trans (num_lt (r := q8)) hl7
  have ht8 := num_48 hb7
  have ho8 := Rd.num_ok hb7
  have he8 := @Rd.num_e q8
  have hgi8 := HW8.out.step hk8 hr8
  clear hr8 hk8 hb7 hl7
  generalize q8.num = qq at hb8 hl8 ht8 ho8 he8 hgi8 ⊢
  obtain ⟨y, q9⟩ := qq
  dsimp only at hb8 hl8 ht8 ho8 he8 hgi8 ⊢
  have HO8 := Lib.hid (⟨ho8, he8, ht8⟩ : (q9.e = 0 → q8.b = enc y ++ q9.b ∧ y < 2 ^ 48) ∧ (q9.e = 0 → q8.e = 0) ∧ y < 281474976710656)
  have HWa := Lib.hid hgi8
  clear ht8 ho8 he8 HW8
  by_cases hy1 : y ≤ 1
  · have hyI : ((y : Int) ≤ 1) := by omega
    have cc := cell_of hgi8.msg 8 (v := .bool false) rfl
    have ff := free_of hgi8.msg 8
    have ck := cell_of hgi8.msg 0 (v := .int .i64 k) rfl
    have HY1 := Lib.hid hy1
    clear hgi8 hy1
    go_wp2_with (go_at_call 30; refine Stop.mk ?_)
    unfold Stop
    refine (demand_yes _ _).mono ?_
    rintro e wb ⟨rfl, rfl⟩
    have HW9 := Lib.hid (show GI w rb G #[.int .i64 k, .int .i64 f, .int .i64 t, .int .i64 m, .int .i64 na, .int .i64 nb, .int .i64 nc, .int .i64 nd, .bool ((y : Int) == 1), .slice none 0 0, .slice none 0 0, .slice none 0 0] q9 a8 c8 (wb.setCell ⟨w.heap.size, 8, none⟩ (.bool ((y : Int) == 1))) from HWa.out.set 8 (.bool ((y : Int) == 1)))
    have ck2 := cell_of HW9.out.msg 0 (v := .int .i64 k) rfl
    by_cases hk3 : k = 3
    · have hk3I : (k : Int) = 3 := by omega
      have HK3 := Lib.hid hk3
      clear hk3
      have hrbV := lt_of_block HW9.out.rd.blk
      go_wp2_with (go_at_call 20; refine Stop.mk ?_)
      unfold Stop
      refine (num_reads HW9.out.rd hb8 (by omega)).mono ?_
      rintro e x10 ⟨rfl, a10, c10, hr10, hk10⟩
      have hb10 := Rd.num_byte hb8
      have hl10 := Nat.le_trans (num_lt (r := q9)) hl8
      have ho10 := Rd.num_ok hb8
      have he10 := @Rd.num_e q9
      have hg10 := HW9.out.step hk10 hr10
      clear hr10 hk10
      generalize q9.num = qq at hb10 hl10 ho10 he10 hg10 ⊢
      obtain ⟨N, q10⟩ := qq
      dsimp only at hb10 hl10 ho10 he10 hg10 ⊢
      have HO10 := Lib.hid (⟨ho10, he10⟩ : (q10.e = 0 → q9.b = enc N ++ q10.b ∧ N < 2 ^ 48) ∧ (q10.e = 0 → q9.e = 0))
      clear ho10 he10
      have hnn := hg10.rb_
      by_cases hN : N ≤ 8
      · have hNI : ((N : Int) ≤ 8) := by omega
        have HW10 := Lib.hid hg10
        have HNN := Lib.hid hN
        obtain ⟨B, hBd⟩ : ∃ B, B = x10.heap.size := ⟨_, rfl⟩
        have hrB : rb < B := by rw [hBd]; exact lt_of_block hg10.rd.blk
        have hE0 : EI w rb G B (fun v => #[.int .i64 k, .int .i64 f, .int .i64 t, .int .i64 m, .int .i64 na, .int .i64 nb, .int .i64 nc, .int .i64 nd, .bool ((y : Int) == 1), v, .slice none 0 0, .slice none 0 0]) q10 0 x10 := ⟨[], none, 0, q10, a10, c10, rfl, hg10, hb10, hl10, Owns.nil _ _ _ _, (fun e he => by cases he), (fun h => ⟨h, rfl⟩), by omega⟩
        have HE0 := Lib.hid hE0
        have hGB : ∀ g, G = some g → g < B := fun g hg => by have := hg10.gl g hg; omega
        have HGB := Lib.hid hGB
        have hAB : w.heap.size + 2 ≤ B := by have := hg10.rb_; omega
        clear hg10 hE0 hN hGB
        go_wp2_with (go_at_call 30; refine Stop.mk ?_)
        unfold Stop
        refine (demand_yes _ _).mono ?_
        rintro e x10 ⟨rfl, rfl⟩
        go_wp2_with fail
        go_loopw [40] (fun i wr => ∃ j : Nat, i = .int .i64 j ∧ j ≤ N ∧ EI w rb G B (fun v => #[.int .i64 k, .int .i64 f, .int .i64 t, .int .i64 m, .int .i64 na, .int .i64 nb, .int .i64 nc, .int .i64 nd, .bool ((y : Int) == 1), v, .slice none 0 0, .slice none 0 0]) q10 j wr) (fun i _ => N - (intOf i).toNat)
        case atStart => exact ⟨0, rfl, by omega, HE0.out⟩
        case round =>
          obtain ⟨j, rfl, hj, es, oe, ce, q, aq, cq, hel, hgi, hby, hql, how, heach, hqe, hBs⟩ := hrel
          have HGI := Lib.hid hgi
          have HOW := Lib.hid how
          have HEA := Lib.hid heach
          have HQE := Lib.hid hqe
          have HEL := Lib.hid hel
          clear hel heach hqe
          by_cases hlt : j < N
          · have hjI : (j : Int) < (N : Int) := by omega
            go_wp2_with (go_at_call 21; refine Stop.mk ?_)
            unfold Stop
            refine (bytes_reads HGI.out.rd hby (by omega)).mono ?_
            rintro e x11 ⟨o11, co11, rfl, ho11, a11, c11, hr11, hk11⟩
            have hb11 := Rd.bytes_byte hby
            have hl11 := @bytes_lt q
            have ho11' := Rd.bytes_ok hby
            have he11 := @Rd.bytes_e q
            have hg11 := HGI.out.step hk11 hr11
            have how11 := HOW.out.kp hk11 (fun g hg => by have := (HOW.out.from hg).1; omega)
            have hea11 : ∀ e ∈ es, Owns x11 B 5 1 e.a e.x.data.length e.c (bytes e.x.data) := fun e he => (HEA.out e he).1.kp hk11 (fun g hg => by have := ((HEA.out e he).1.from hg).1; omega)
            have hs11 := hk11.size
            generalize q.bytes = qq at ho11 hb11 hl11 ho11' he11 hg11 ⊢
            obtain ⟨B1, q1⟩ := qq
            dsimp only at ho11 hb11 hl11 ho11' he11 hg11 ⊢
            have HO11 := Lib.hid (⟨ho11', he11⟩ : (q1.e = 0 → q.b = encs B1 ++ q1.b ∧ B1.length ≤ 1048576) ∧ (q1.e = 0 → q.e = 0))
            have HB11 := Lib.hid hb11
            have HL11 := Lib.hid (⟨Nat.le_trans hl11.1 hql, Nat.le_trans hl11.2 hql⟩ : q1.b.length ≤ 16777216 ∧ B1.length ≤ 16777216)
            have HW11 := Lib.hid hg11
            have HOW11 := Lib.hid how11
            have HEA11 := Lib.hid hea11
            have HGE := Lib.hid (getEntry_any ho11.row hb11.2 (by have := hl11.2; omega) co11)
            clear hr11 hk11 ho11 ho11' he11 hg11 hl11 hb11 how11 hea11
            go_wp2_with (go_at_call 4; refine Stop.mk ?_)
            unfold Stop
            refine (HGE.out).mono ?_
            rintro e x12 ⟨hk12, hx12⟩
            have hg12 := HW11.out.call hk12
            have HW12 := Lib.hid hg12
            have HOW12 := Lib.hid (HOW11.out.kp hk12 (fun _ _ h => h))
            have HEA12 := Lib.hid (fun e he => (HEA11.out e he).kp hk12 (fun _ _ h => h))
            have hs12 := hk12.size
            clear hk12 HGE
            rcases hx12 with ⟨_, rfl⟩ | ⟨o12, co12, hfit, rfl, ho12⟩
            · go_wp2_with (go_at_call 30; refine Stop.mk ?_)
              unfold Stop
              refine (demand_no _ _).mono ?_
              rintro e w' ⟨rfl, rfl⟩
              have hz := HW12.out.call ((Kp.refl _ x12).alloc (.cells #[.int .i64 0, .int .i64 0, .int .i64 0, .slice none 0 0] 24))
              exact get_panic hz.msg hz.err hz.kp rfl rfl
            · have hef := entry_fit HB11.out.2 hfit
              have HOD := Lib.hid (ho12.low (B' := B) (by omega))
              generalize (getE B1).1 = x at hef HOD ⊢
              have HEF := Lib.hid hef
              unfold enV
              clear hef ho12 hfit
              obtain ⟨xt, xi, xk, xd⟩ := x
              generalize hdl : xd.length = dl at HOD ⊢
              have HXD := Lib.hid hdl
              clear hdl
              go_wp2_with (go_at_call 30; refine Stop.mk ?_)
              unfold Stop
              have k13 := (Kp.refl (fun _ => False) x12).alloc (.cells #[.int .i64 xt, .int .i64 xi, .int .i64 xk, .slice o12 dl co12] 24)
              have cA9 := cell_of (HW12.out.call k13).msg 9 (v := .slice oe j ce) rfl
              refine (demand_yes _ _).mono ?_
              rintro e w' ⟨rfl, rfl⟩
              have k14 := k13.alloc (.cells #[.int .i64 xt, .int .i64 xi, .int .i64 xk, .slice o12 dl co12] 24)
              have hs13 : (x12.alloc (.cells #[.int .i64 xt, .int .i64 xi, .int .i64 xk, .slice o12 dl co12] 24)).heap.size = x12.heap.size + 1 := by simp
              go_wp2_with (at_builtin; refine Stop.mk ?_)
              unfold Stop
              have hrow : Row ((x12.alloc (.cells #[.int .i64 xt, .int .i64 xi, .int .i64 xk, .slice o12 dl co12] 24)).alloc (.cells #[.int .i64 xt, .int .i64 xi, .int .i64 xk, .slice o12 dl co12] 24)) (some ⟨x12.heap.size + 1, 0, none⟩) [.int .i64 xt, .int .i64 xi, .int .i64 xk, .slice o12 dl co12] := fun p u hu => ⟨_, _, rfl, cell_of (by rw [← hs13]; exact heap_new _ _) (0 + p) (by rw [Nat.zero_add, List.getElem?_toArray]; exact hu)⟩
              have how14 := HOW12.out.kp k14 (fun _ _ h => h)
              refine wpList_app rfl _ _ 35 rfl B 24 info24 Tryz.underlying35 rfl (by decide) rfl how14 rfl (news := [.int .i64 xt, .int .i64 xi, .int .i64 xk, .slice o12 dl co12]) rfl hrow.news (by simp [Value.oneCell']) (by have := HNN.out; unfold maxLen; omega) (by have := HNN.out; omega) (by have := k14.size; omega) ?_
              intro a15 c15 x15 ho15 hk15
              have hge : ∀ g, blockOf oe = some g → B ≤ g := fun g hg => (how14.from hg).1
              have hg15 := (HW12.out.call k14).kpS hk15 (fun h => by have := hge _ h.symm; omega) (fun h => by have := hge _ h.symm; omega) (fun h => by have := hge _ h.symm; omega) (fun g hg h => by have := hge _ h.symm; have := HGB.out g hg; omega) (fun p h => by have := hge _ h.symm; omega)
              have hea15 : ∀ e ∈ es, Owns x15 B 5 1 e.a e.x.data.length e.c (bytes e.x.data) := fun e he => ((HEA12.out e he).kp k14 (fun _ _ h => h)).kp hk15 (owns_ne ((HEA12.out e he).kp k14 (fun _ _ h => h)) how14)
              have hod14 := HOD.out.kp k14 (fun _ _ h => h)
              have hod15 := hod14.kp hk15 (owns_ne hod14 how14)
              have cS := cell_of hg15.msg 9 (v := .slice oe j ce) rfl
              have fS := free_of hg15.msg 9
              have hs15 := hk15.size
              have hs14 := k14.size
              have HW15 := Lib.hid hg15
              have HEA15 := Lib.hid hea15
              have HOD15 := Lib.hid hod15
              have HO15 := Lib.hid ho15
              clear k13 k14 how14 hrow hge hg15 hea15 hod14 hod15 ho15 hk15 cA9
              go_wp2
              have k16 : Kp (fun p => p = w.heap.size) x15 (x15.setCell ⟨w.heap.size, 9, none⟩ (.slice a15 (j + 1) c15)) := (Kp.refl (fun p => p = w.heap.size) x15).setCell (p := ⟨w.heap.size, 9, none⟩) (.inl rfl) _
              refine ⟨⟨j + 1, rfl, hlt, es ++ [⟨⟨xt, xi, xk, xd⟩, o12, co12⟩], a15, c15, q1, a11, c11, by rw [List.length_append, HEL.out]; rfl, HW15.out.set 9 (.slice a15 (j + 1) c15), HB11.out.1, HL11.out.1, ?_, ?_, ?_, ?_⟩, meas1 hlt⟩
              · have h1 := HO15.out.kp k16 (fun g hg => by have := (HO15.out.from hg).1; omega)
                have h2 : es.flatMap Ep.cells ++ [.int .i64 xt, .int .i64 xi, .int .i64 xk, .slice o12 dl co12] = (es ++ [(⟨⟨xt, xi, xk, xd⟩, o12, co12⟩ : Ep)]).flatMap Ep.cells := by
                  rw [List.flatMap_append, ← HXD.out]
                  rfl
                rw [h2] at h1
                exact h1
              · intro e he
                rw [List.mem_append] at he
                rcases he with he | he
                · exact ⟨(HEA15.out e he).kp k16 (fun g hg => by have := ((HEA15.out e he).from hg).1; omega), (HEA.out e he).2⟩
                · simp only [List.mem_cons, List.not_mem_nil, or_false] at he
                  subst he
                  refine ⟨?_, HEF.out.2.1, HEF.out.2.2.1, HEF.out.2.2.2⟩
                  have := HOD15.out.kp k16 (fun g hg => by have := (HOD15.out.from hg).1; omega)
                  rw [← HXD.out] at this
                  exact this
              · intro hq
                have h1 := HQE.out (HO11.out.2 hq)
                have h2 := (HO11.out.1 hq).1
                refine ⟨h1.1, ?_⟩
                rw [h1.2, h2, ← HEF.out.1]
                simp [eby, encB, encs]
              · have := k16.size
                omega
          · obtain rfl : j = N := by omega
            go_wp2_with (go_at_call 22; refine Stop.mk ?_)
            unfold Stop
            refine (end_any HGI.out.rd).mono ?_
            rintro e we ⟨rfl, rfl⟩
            rcases end_or q with ⟨hq1, hq2, hq⟩ | hq
            · rw [hq]
              have cm0 := cell_of HGI.out.msg 0 (v := .int .i64 k) rfl
              have cm1 := cell_of HGI.out.msg 1 (v := .int .i64 f) rfl
              have cm2 := cell_of HGI.out.msg 2 (v := .int .i64 t) rfl
              have cm3 := cell_of HGI.out.msg 3 (v := .int .i64 m) rfl
              have cm4 := cell_of HGI.out.msg 4 (v := .int .i64 na) rfl
              have cm5 := cell_of HGI.out.msg 5 (v := .int .i64 nb) rfl
              have cm6 := cell_of HGI.out.msg 6 (v := .int .i64 nc) rfl
              have cm7 := cell_of HGI.out.msg 7 (v := .int .i64 nd) rfl
              have cm8 := cell_of HGI.out.msg 8 (v := .bool ((y : Int) == 1)) rfl
              have cm9 := cell_of HGI.out.msg 9 (v := .slice oe j ce) rfl
              have cm10 := cell_of HGI.out.msg 10 (v := .slice none 0 0) rfl
              have cm11 := cell_of HGI.out.msg 11 (v := .slice none 0 0) rfl
              clear hq
              go_wp2_with (go_at_call 30; refine Stop.mk ?_)
              unfold Stop
              refine (demand_yes _ _).mono ?_
              rintro e wf ⟨rfl, rfl⟩
              go_wp2_with (go_at_call 31; refine Stop.mk ?_)
              unfold Stop
              refine (rightM_any _ 3 f t m na nb nc nd 21 ((y : Int) == 1) oe none none j ce 0 0 0 0 (by have := HNN.out; omega) (by omega) (by omega)).mono ?_
              rintro e wg ⟨hkg, hr⟩
              have HWg := Lib.hid (HGI.out.call hkg)
              clear cm0 cm1 cm2 cm3 cm4 cm5 cm6 cm7 cm8 cm9 cm10 cm11
              rcases hr with ⟨hok, rfl⟩ | ⟨_, rfl⟩
              · have HOKM := Lib.hid hok
                have cm0 := cell_of HWg.out.msg 0 (v := .int .i64 k) rfl
                have fm0 := free_of HWg.out.msg 0
                have cm1 := cell_of HWg.out.msg 1 (v := .int .i64 f) rfl
                have fm1 := free_of HWg.out.msg 1
                have cm2 := cell_of HWg.out.msg 2 (v := .int .i64 t) rfl
                have fm2 := free_of HWg.out.msg 2
                have cm3 := cell_of HWg.out.msg 3 (v := .int .i64 m) rfl
                have fm3 := free_of HWg.out.msg 3
                have cm4 := cell_of HWg.out.msg 4 (v := .int .i64 na) rfl
                have fm4 := free_of HWg.out.msg 4
                have cm5 := cell_of HWg.out.msg 5 (v := .int .i64 nb) rfl
                have fm5 := free_of HWg.out.msg 5
                have cm6 := cell_of HWg.out.msg 6 (v := .int .i64 nc) rfl
                have fm6 := free_of HWg.out.msg 6
                have cm7 := cell_of HWg.out.msg 7 (v := .int .i64 nd) rfl
                have fm7 := free_of HWg.out.msg 7
                have cm8 := cell_of HWg.out.msg 8 (v := .bool ((y : Int) == 1)) rfl
                have fm8 := free_of HWg.out.msg 8
                have cm9 := cell_of HWg.out.msg 9 (v := .slice oe j ce) rfl
                have fm9 := free_of HWg.out.msg 9
                have cm10 := cell_of HWg.out.msg 10 (v := .slice none 0 0) rfl
                have fm10 := free_of HWg.out.msg 10
                have cm11 := cell_of HWg.out.msg 11 (v := .slice none 0 0) rfl
                have fm11 := free_of HWg.out.msg 11
                have cee := cell_of HWg.out.err 0 (v := .int .i64 0) rfl
                have fee := free_of HWg.out.err 0
                have hP := set12 (y0 := .int .i64 3) (y1 := .int .i64 f) (y2 := .int .i64 t) (y3 := .int .i64 m) (y4 := .int .i64 na) (y5 := .int .i64 nb) (y6 := .int .i64 nc) (y7 := .int .i64 nd) (y8 := .bool ((y : Int) == 1)) (y9 := .slice oe j ce) (y10 := .slice none 0 0) (y11 := .slice none 0 0) HWg.out.msg
                have k12 := kp12 (w := wg) (b := w.heap.size) (y0 := .int .i64 3) (y1 := .int .i64 f) (y2 := .int .i64 t) (y3 := .int .i64 m) (y4 := .int .i64 na) (y5 := .int .i64 nb) (y6 := .int .i64 nc) (y7 := .int .i64 nd) (y8 := .bool ((y : Int) == 1)) (y9 := .slice oe j ce) (y10 := .slice none 0 0) (y11 := .slice none 0 0)
                have hE := k12.heap HWg.out.err (by omega)
                have HP := Lib.hid hP
                have HK12 := Lib.hid k12
                have HE := Lib.hid hE
                have ce2 := cell_of hE 0 (v := .int .i64 0) rfl
                have fe2 := free_of hE 0
                clear hok hP k12 hE
                go_wp2_with fail
                refine leaves_cons (f := 28) (args := #[.pointer (some ⟨w.heap.size, 0, none⟩), .pointer (some ⟨w.heap.size + 1, 0, none⟩)]) (by simp) (by simp [go_sem]) ?_
                refine (caught28_idle _ _ _).mono ?_
                rintro e u' w9 ⟨rfl, rfl, rfl⟩
                have hP2 := heap_set_other (p := ⟨w.heap.size + 1, 0, none⟩) (u := .int .i64 0) HP.out (by simp)
                have hE2 := heap_set HE.out 0 (.int .i64 0)
                have hK2 := HK12.out
                have hKf := (HWg.out.kp.andThen hK2 (fun i hi e => by omega)).setCell (p := ⟨w.heap.size + 1, 0, none⟩) (.inl (by simp)) (.int .i64 0)
                have hkk : Kp (fun j => j = w.heap.size ∨ j = w.heap.size + 1) wg _ := (hK2.mono (S' := fun j => j = w.heap.size ∨ j = w.heap.size + 1) (fun _ _ h => .inl h)).setCell (p := ⟨w.heap.size + 1, 0, none⟩) (.inl (.inr rfl)) (.int .i64 0)
                have z0 := cell_of hP2 0 (v := .int .i64 3) rfl
                have z1 := cell_of hP2 1 (v := .int .i64 f) rfl
                have z2 := cell_of hP2 2 (v := .int .i64 t) rfl
                have z3 := cell_of hP2 3 (v := .int .i64 m) rfl
                have z4 := cell_of hP2 4 (v := .int .i64 na) rfl
                have z5 := cell_of hP2 5 (v := .int .i64 nb) rfl
                have z6 := cell_of hP2 6 (v := .int .i64 nc) rfl
                have z7 := cell_of hP2 7 (v := .int .i64 nd) rfl
                have z8 := cell_of hP2 8 (v := .bool ((y : Int) == 1)) rfl
                have z9 := cell_of hP2 9 (v := .slice oe j ce) rfl
                have z10 := cell_of hP2 10 (v := .slice none 0 0) rfl
                have z11 := cell_of hP2 11 (v := .slice none 0 0) rfl
                have z12 := cell_of hE2 0 (v := .int .i64 0) rfl
                refine ⟨.tuple #[.agg #[.int .i64 3, .int .i64 f, .int .i64 t, .int .i64 m, .int .i64 na, .int .i64 nb, .int .i64 nc, .int .i64 nd, .bool ((y : Int) == 1), .slice oe j ce, .slice none 0 0, .slice none 0 0], .int .i64 0], by simp [results, Tryz.results9, go_sem, hk3I, z0, z1, z2, z3, z4, z5, z6, z7, z8, z9, z10, z11, z12], hKf.fin, .inr ?_⟩
                have h10 := HQE.out hq1
                have h9 := HO10.out.2 h10.1
                have h8 := HO8.out.2.1 h9
                have h7 := HO7.out.2.1 h8
                have h6 := HO6.out.2.1 h7
                have h5 := HO5.out.2.1 h6
                have h4 := HO4.out.2.1 h5
                have h3 := HO3.out.2.1 h4
                have h2 := HO2.out.2.1 h3
                have h1 := HO1.out.2.1 h2
                have h0 := HO0.out.2.1 h1
                have hb : b = nby [k, f, t, m, na, nb, nc, nd] ++ (enc y ++ q9.b) := by
                  have hq : b = q0.b := by rw [← HQ0.out]
                  rw [hq, (HO0.out.1 h1).1, (HO1.out.1 h2).1, (HO2.out.1 h3).1, (HO3.out.1 h4).1, (HO4.out.1 h5).1, (HO5.out.1 h6).1, (HO6.out.1 h7).1, (HO7.out.1 h8).1, (HO8.out.1 h9).1]
                  simp [nby]
                have hy : enc y = yby ((y : Int) == 1) := enc_yes HY1.out
                have how2 := (HOW.out.kp hkg (fun _ _ h => h))
                have hge2 : ∀ g, blockOf oe = some g → B ≤ g := fun g hg => (HOW.out.from hg).1
                refine ⟨3, f, t, m, na, nb, nc, nd, ((y : Int) == 1), oe, none, none, ce, 0, 0, es, [], [], [], ?_, by rw [HEL.out]; exact HOKM.out, ⟨?_, ?_⟩, Row.nil _ _, Row.nil _ _, (fun e => by omega), (fun e he => (HEA.out e he).2), by rw [HEL.out]; rfl⟩
                · have e3 := HK3.out
                  rw [hb, e3, hy, (HO10.out.1 h10.1).1, h10.2, hq2, mby, if_pos rfl, List.append_nil, List.length_map, HEL.out]
                  simp [eby, List.flatMap_map]
                · exact how2.row4.kp hkk (fun g hg => by have := hge2 g hg; show ¬ (g = w.heap.size ∨ g = w.heap.size + 1); omega)
                · intro e he
                  have h5 := (HEA.out e he).1.kp hkg (fun _ _ h => h)
                  exact h5.row.kp hkk (fun g hg => by have := (h5.from hg).1; show ¬ (g = w.heap.size ∨ g = w.heap.size + 1); omega)
              · exact get_panic HWg.out.msg HWg.out.err HWg.out.kp rfl rfl
            · generalize (if q.e ≠ 0 then q.e else if q.b.length = 0 then 0 else 21) = er at hq ⊢
              go_wp2_with (go_at_call 30; refine Stop.mk ?_)
              unfold Stop
              have hqb : (er == 0) = false := by simpa using hq
              try rw [hqb]
              refine (demand_no _ _).mono ?_
              rintro e w' ⟨rfl, rfl⟩
              exact get_panic HGI.out.msg HGI.out.err HGI.out.kp rfl rfl
      · have hNI : ¬ ((N : Int) ≤ 8) := by omega
        have hNb : decide ((N : Int) ≤ 8) = false := by simpa using hNI
        clear hN hNI
        go_wp2_with (go_at_call 30; refine Stop.mk ?_)
        unfold Stop
        try rw [hNb]
        refine (demand_no _ _).mono ?_
        rintro e w' ⟨rfl, rfl⟩
        exact get_panic hg10.msg hg10.err hg10.kp rfl rfl
    · have hk3I : ¬ ((k : Int) = 3) := by omega
      by_cases hk5 : k = 5
      · have hk5I : (k : Int) = 5 := by omega
        have HK5 := Lib.hid hk5
        clear hk5
        have hrbV := lt_of_block HW9.out.rd.blk
        go_wp2_with (go_at_call 21; refine Stop.mk ?_)
        unfold Stop
        refine (bytes_reads HW9.out.rd hb8 (by omega)).mono ?_
        rintro e x10 ⟨o10, co10, rfl, ho10, a10, c10, hr10, hk10⟩
        have hb10 := Rd.bytes_byte hb8
        have hl10 := @bytes_lt q9
        have ho10' := Rd.bytes_ok hb8
        have he10 := @Rd.bytes_e q9
        have hg10 := HW9.out.step hk10 hr10
        generalize q9.bytes = qq at ho10 hb10 hl10 ho10' he10 hg10 ⊢
        obtain ⟨B1, q10⟩ := qq
        dsimp only at ho10 hb10 hl10 ho10' he10 hg10 ⊢
        have HO10 := Lib.hid (⟨ho10', he10⟩ : (q10.e = 0 → q9.b = encs B1 ++ q10.b ∧ B1.length ≤ 1048576) ∧ (q10.e = 0 → q9.e = 0))
        have hrbX := lt_of_block hg10.rd.blk
        have HW10 := Lib.hid hg10
        have HR10 := Lib.hid ho10.row
        have hb8l : B1.length ≤ 16777216 := Nat.le_trans hl10.2 hl8
        have hq10l : q10.b.length ≤ 16777216 := Nat.le_trans hl10.1 hl8
        clear hr10 hk10 ho10 ho10' he10 hg10 hl10
        go_wp2_with (go_at_call 7; refine Stop.mk ?_)
        unfold Stop
        refine (getServers_any HR10.out hb10.2 (by omega) co10).mono ?_
        rintro e x11 ⟨hk11, hx11⟩
        have hg11 := HW10.out.call hk11
        have hsz11 := hk11.size
        have cA := cell_of hg11.msg 10 (v := .slice none 0 0) rfl
        have fA := free_of hg11.msg 10
        have cB := cell_of hg11.err 0 (v := .int .i64 0) rfl
        have fB := free_of hg11.err 0
        have HW11 := Lib.hid hg11
        clear hk11 hg11
        rcases hx11 with ⟨_, rfl⟩ | ⟨xs, o11, co11, hgs, rfl, ho11⟩
        · go_wp2_with (go_at_call 30; refine Stop.mk ?_)
          unfold Stop
          refine (demand_no _ _).mono ?_
          rintro e w' ⟨rfl, rfl⟩
          have hs := HW11.out.set 10 (.slice none 0 0)
          have hm2 := heap_set_other (p := ⟨w.heap.size + 1, 0, none⟩) (u := .int .i64 21) hs.msg (by simp)
          have he2 := heap_set hs.err 0 (.int .i64 21)
          exact get_panic hm2 he2 (hs.kp.setCell (p := ⟨w.heap.size + 1, 0, none⟩) (.inl (by simp)) _) rfl rfl
        · have hsv := getS_back hgs
          have hxl := (srv_len hsv).2
          have hs := HW11.out.set 10 (.slice o11 xs.length co11)
          have hk12 : Kp (fun j => j = w.heap.size ∨ j = w.heap.size + 1) x11 ((x11.setCell ⟨w.heap.size, 10, none⟩ (.slice o11 xs.length co11)).setCell ⟨w.heap.size + 1, 0, none⟩ (.int .i64 0)) :=
            ((Kp.refl (fun j => j = w.heap.size ∨ j = w.heap.size + 1) x11).setCell (p := ⟨w.heap.size, 10, none⟩) (.inl (.inl rfl)) _).setCell (p := ⟨w.heap.size + 1, 0, none⟩) (.inl (.inr rfl)) _
          have hg12 : GI w rb G #[.int .i64 k, .int .i64 f, .int .i64 t, .int .i64 m, .int .i64 na, .int .i64 nb, .int .i64 nc, .int .i64 nd, .bool ((y : Int) == 1), .slice none 0 0, .slice o11 xs.length co11, .slice none 0 0] q10 a10 c10 ((x11.setCell ⟨w.heap.size, 10, none⟩ (.slice o11 xs.length co11)).setCell ⟨w.heap.size + 1, 0, none⟩ (.int .i64 0)) := by
            have hk1 : Kp (fun j => j = w.heap.size + 1) (x11.setCell ⟨w.heap.size, 10, none⟩ (.slice o11 xs.length co11)) ((x11.setCell ⟨w.heap.size, 10, none⟩ (.slice o11 xs.length co11)).setCell ⟨w.heap.size + 1, 0, none⟩ (.int .i64 0)) := (Kp.refl (fun j => j = w.heap.size + 1) _).setCell (p := ⟨w.heap.size + 1, 0, none⟩) (.inl rfl) _
            exact ⟨hk1.heap hs.msg (by omega), heap_set hs.err 0 _, hs.rd.kp hk1 (by have := hs.rb_; omega) (fun g hg => by have := hs.g_ g hg; omega), hs.rb_, hs.g_, hs.kp.andThen hk1 (fun _ _ e => by omega), fun g hg => Nat.lt_of_lt_of_le (hs.gl g hg) hk1.size⟩
          have HX12 := Lib.hid (ho11.row.kp hk12 (fun g hg => by have := (ho11.from hg).1; have := HW11.out.rb_; omega))
          have HXB := Lib.hid (fun g (hg : blockOf o11 = some g) => (ho11.from hg).1)
          have hsz12 := hk12.size
          have ce12 := cell_of hg12.err 0 (v := .int .i64 0) rfl
          have HW12 := Lib.hid hg12
          have HSV := Lib.hid hsv
          have HXL := Lib.hid hxl
          clear hs hk12 hg12 ho11 hgs hsv hxl
          go_wp2_with (go_at_call 30; refine Stop.mk ?_)
          unfold Stop
          generalize ((x11.setCell ⟨w.heap.size, 10, none⟩ (.slice o11 xs.length co11)).setCell ⟨w.heap.size + 1, 0, none⟩ (.int .i64 0)) = x12 at HX12 hsz12 ce12 HW12 ⊢
          clear cA fA cB fB
          refine (demand_yes _ _).mono ?_
          rintro e x12 ⟨rfl, rfl⟩
          go_wp2_with (go_at_call 21; refine Stop.mk ?_)
          unfold Stop
          refine (bytes_reads HW12.out.rd hb10.1 (by omega)).mono ?_
          rintro e x13 ⟨o13, co13, rfl, ho13, a13, c13, hr13, hk13⟩
          have hb13 := Rd.bytes_byte hb10.1
          have hl13 := @bytes_lt q10
          have ho13' := Rd.bytes_ok hb10.1
          have he13 := @Rd.bytes_e q10
          have hg13 := HW12.out.step hk13 hr13
          have hX13 := HX12.out.kp hk13 (fun g hg => by have := HXB.out g hg; show ¬ g = rb; omega)
          have hsz13 := hk13.size
          generalize q10.bytes = qq at ho13 hb13 hl13 ho13' he13 hg13 ⊢
          obtain ⟨D, q11⟩ := qq
          dsimp only at ho13 hb13 hl13 ho13' he13 hg13 ⊢
          have HO13 := Lib.hid (⟨ho13', he13⟩ : (q11.e = 0 → q10.b = encs D ++ q11.b ∧ D.length ≤ 1048576) ∧ (q11.e = 0 → q10.e = 0))
          have hDl : D.length ≤ 16777216 := Nat.le_trans hl13.2 hq10l
          have HDl := Lib.hid hDl
          have hk14 : Kp (fun j => j = w.heap.size) x13 (x13.setCell ⟨w.heap.size, 11, none⟩ (.slice o13 D.length co13)) := (Kp.refl (fun j => j = w.heap.size) x13).setCell (p := ⟨w.heap.size, 11, none⟩) (.inl rfl) _
          have hg14 : GI w rb G #[.int .i64 k, .int .i64 f, .int .i64 t, .int .i64 m, .int .i64 na, .int .i64 nb, .int .i64 nc, .int .i64 nd, .bool ((y : Int) == 1), .slice none 0 0, .slice o11 xs.length co11, .slice o13 D.length co13] q11 a13 c13 (x13.setCell ⟨w.heap.size, 11, none⟩ (.slice o13 D.length co13)) := hg13.set 11 (.slice o13 D.length co13)
          have HX14 := Lib.hid (hX13.kp hk14 (fun g hg => by have := HXB.out g hg; have := HW11.out.rb_; show ¬ g = w.heap.size; omega))
          have HD14 := Lib.hid (ho13.row.kp hk14 (fun g hg => by have := (ho13.from hg).1; have := HW11.out.rb_; show ¬ g = w.heap.size; omega))
          have HDB := Lib.hid (fun g (hg : blockOf o13 = some g) => (ho13.from hg).1)
          have cD := cell_of hg13.msg 11 (v := .slice none 0 0) rfl
          have fD := free_of hg13.msg 11
          have HW14 := Lib.hid hg14
          have HBD := Lib.hid hb13
          have HSZ := Lib.hid (show w.heap.size + 2 ≤ x10.heap.size ∧ w.heap.size + 2 ≤ x12.heap.size by have := HW11.out.rb_; omega)
          clear hr13 hk13 ho13 ho13' he13 hg13 hl13 hX13 hk14 hg14 hb13 hDl
          generalize hlD : D.length = dl at HW14 HX14 HD14 HDl ⊢
          have HLD := Lib.hid hlD
          generalize hlx : xs.length = xl at HW14 HXL ⊢
          have HLX := Lib.hid hlx
          clear hlD hlx ce12
          go_wp2_with (go_at_call 22; refine Stop.mk ?_)
          unfold Stop
          refine (end_any HW14.out.rd).mono ?_
          rintro e we ⟨rfl, rfl⟩
          rcases end_or q11 with ⟨hq1, hq2, hq⟩ | hq
          · rw [hq]
            have cm0 := cell_of HW14.out.msg 0 (v := .int .i64 k) rfl
            have cm1 := cell_of HW14.out.msg 1 (v := .int .i64 f) rfl
            have cm2 := cell_of HW14.out.msg 2 (v := .int .i64 t) rfl
            have cm3 := cell_of HW14.out.msg 3 (v := .int .i64 m) rfl
            have cm4 := cell_of HW14.out.msg 4 (v := .int .i64 na) rfl
            have cm5 := cell_of HW14.out.msg 5 (v := .int .i64 nb) rfl
            have cm6 := cell_of HW14.out.msg 6 (v := .int .i64 nc) rfl
            have cm7 := cell_of HW14.out.msg 7 (v := .int .i64 nd) rfl
            have cm8 := cell_of HW14.out.msg 8 (v := .bool ((y : Int) == 1)) rfl
            have cm9 := cell_of HW14.out.msg 9 (v := .slice none 0 0) rfl
            have cm10 := cell_of HW14.out.msg 10 (v := .slice o11 xl co11) rfl
            have cm11 := cell_of HW14.out.msg 11 (v := .slice o13 dl co13) rfl
            clear hq
            go_wp2_with (go_at_call 30; refine Stop.mk ?_)
            unfold Stop
            refine (demand_yes _ _).mono ?_
            rintro e wf ⟨rfl, rfl⟩
            go_wp2_with (go_at_call 31; refine Stop.mk ?_)
            unfold Stop
            refine (rightM_any _ 5 f t m na nb nc nd 21 ((y : Int) == 1) none o11 o13 0 0 xl co11 dl co13 (by omega) (by have := HXL.out; omega) (by have := HDl.out; omega)).mono ?_
            rintro e wg ⟨hkg, hr⟩
            have HWg := Lib.hid (HW14.out.call hkg)
            clear cm0 cm1 cm2 cm3 cm4 cm5 cm6 cm7 cm8 cm9 cm10 cm11
            rcases hr with ⟨hok, rfl⟩ | ⟨_, rfl⟩
            · have HOKM := Lib.hid hok
              have cm0 := cell_of HWg.out.msg 0 (v := .int .i64 k) rfl
              have fm0 := free_of HWg.out.msg 0
              have cm1 := cell_of HWg.out.msg 1 (v := .int .i64 f) rfl
              have fm1 := free_of HWg.out.msg 1
              have cm2 := cell_of HWg.out.msg 2 (v := .int .i64 t) rfl
              have fm2 := free_of HWg.out.msg 2
              have cm3 := cell_of HWg.out.msg 3 (v := .int .i64 m) rfl
              have fm3 := free_of HWg.out.msg 3
              have cm4 := cell_of HWg.out.msg 4 (v := .int .i64 na) rfl
              have fm4 := free_of HWg.out.msg 4
              have cm5 := cell_of HWg.out.msg 5 (v := .int .i64 nb) rfl
              have fm5 := free_of HWg.out.msg 5
              have cm6 := cell_of HWg.out.msg 6 (v := .int .i64 nc) rfl
              have fm6 := free_of HWg.out.msg 6
              have cm7 := cell_of HWg.out.msg 7 (v := .int .i64 nd) rfl
              have fm7 := free_of HWg.out.msg 7
              have cm8 := cell_of HWg.out.msg 8 (v := .bool ((y : Int) == 1)) rfl
              have fm8 := free_of HWg.out.msg 8
              have cm9 := cell_of HWg.out.msg 9 (v := .slice none 0 0) rfl
              have fm9 := free_of HWg.out.msg 9
              have cm10 := cell_of HWg.out.msg 10 (v := .slice o11 xl co11) rfl
              have fm10 := free_of HWg.out.msg 10
              have cm11 := cell_of HWg.out.msg 11 (v := .slice o13 dl co13) rfl
              have fm11 := free_of HWg.out.msg 11
              have cee := cell_of HWg.out.err 0 (v := .int .i64 0) rfl
              have fee := free_of HWg.out.err 0
              have hP := set12 (y0 := .int .i64 5) (y1 := .int .i64 f) (y2 := .int .i64 t) (y3 := .int .i64 m) (y4 := .int .i64 na) (y5 := .int .i64 nb) (y6 := .int .i64 nc) (y7 := .int .i64 nd) (y8 := .bool ((y : Int) == 1)) (y9 := .slice none 0 0) (y10 := .slice o11 xl co11) (y11 := .slice o13 dl co13) HWg.out.msg
              have k12 := kp12 (w := wg) (b := w.heap.size) (y0 := .int .i64 5) (y1 := .int .i64 f) (y2 := .int .i64 t) (y3 := .int .i64 m) (y4 := .int .i64 na) (y5 := .int .i64 nb) (y6 := .int .i64 nc) (y7 := .int .i64 nd) (y8 := .bool ((y : Int) == 1)) (y9 := .slice none 0 0) (y10 := .slice o11 xl co11) (y11 := .slice o13 dl co13)
              have hE := k12.heap HWg.out.err (by omega)
              have HP := Lib.hid hP
              have HK12 := Lib.hid k12
              have HE := Lib.hid hE
              have ce2 := cell_of hE 0 (v := .int .i64 0) rfl
              have fe2 := free_of hE 0
              clear hok hP k12 hE
              go_wp2_with fail
              refine leaves_cons (f := 28) (args := #[.pointer (some ⟨w.heap.size, 0, none⟩), .pointer (some ⟨w.heap.size + 1, 0, none⟩)]) (by simp) (by simp [go_sem]) ?_
              refine (caught28_idle _ _ _).mono ?_
              rintro e u' w9 ⟨rfl, rfl, rfl⟩
              have hP2 := heap_set_other (p := ⟨w.heap.size + 1, 0, none⟩) (u := .int .i64 0) HP.out (by simp)
              have hE2 := heap_set HE.out 0 (.int .i64 0)
              have hK2 := HK12.out
              have hKf := (HWg.out.kp.andThen hK2 (fun i hi e => by omega)).setCell (p := ⟨w.heap.size + 1, 0, none⟩) (.inl (by simp)) (.int .i64 0)
              have hkk : Kp (fun j => j = w.heap.size ∨ j = w.heap.size + 1) wg _ := (hK2.mono (S' := fun j => j = w.heap.size ∨ j = w.heap.size + 1) (fun _ _ h => .inl h)).setCell (p := ⟨w.heap.size + 1, 0, none⟩) (.inl (.inr rfl)) (.int .i64 0)
              have z0 := cell_of hP2 0 (v := .int .i64 5) rfl
              have z1 := cell_of hP2 1 (v := .int .i64 f) rfl
              have z2 := cell_of hP2 2 (v := .int .i64 t) rfl
              have z3 := cell_of hP2 3 (v := .int .i64 m) rfl
              have z4 := cell_of hP2 4 (v := .int .i64 na) rfl
              have z5 := cell_of hP2 5 (v := .int .i64 nb) rfl
              have z6 := cell_of hP2 6 (v := .int .i64 nc) rfl
              have z7 := cell_of hP2 7 (v := .int .i64 nd) rfl
              have z8 := cell_of hP2 8 (v := .bool ((y : Int) == 1)) rfl
              have z9 := cell_of hP2 9 (v := .slice none 0 0) rfl
              have z10 := cell_of hP2 10 (v := .slice o11 xl co11) rfl
              have z11 := cell_of hP2 11 (v := .slice o13 dl co13) rfl
              have z12 := cell_of hE2 0 (v := .int .i64 0) rfl
              refine ⟨.tuple #[.agg #[.int .i64 5, .int .i64 f, .int .i64 t, .int .i64 m, .int .i64 na, .int .i64 nb, .int .i64 nc, .int .i64 nd, .bool ((y : Int) == 1), .slice none 0 0, .slice o11 xl co11, .slice o13 dl co13], .int .i64 0], by simp [results, Tryz.results9, go_sem, hk5I, z0, z1, z2, z3, z4, z5, z6, z7, z8, z9, z10, z11, z12], hKf.fin, .inr ?_⟩
              have h11 : q11.e = 0 := hq1
              have h10 := HO13.out.2 h11
              have h9 := HO10.out.2 h10
              have h8 := HO8.out.2.1 h9
              have h7 := HO7.out.2.1 h8
              have h6 := HO6.out.2.1 h7
              have h5 := HO5.out.2.1 h6
              have h4 := HO4.out.2.1 h5
              have h3 := HO3.out.2.1 h4
              have h2 := HO2.out.2.1 h3
              have h1 := HO1.out.2.1 h2
              have h0 := HO0.out.2.1 h1
              have hb : b = nby [k, f, t, m, na, nb, nc, nd] ++ (enc y ++ q9.b) := by
                have hq : b = q0.b := by rw [← HQ0.out]
                rw [hq, (HO0.out.1 h1).1, (HO1.out.1 h2).1, (HO2.out.1 h3).1, (HO3.out.1 h4).1, (HO4.out.1 h5).1, (HO5.out.1 h6).1, (HO6.out.1 h7).1, (HO7.out.1 h8).1, (HO8.out.1 h9).1]
                simp [nby]
              have hy : enc y = yby ((y : Int) == 1) := enc_yes HY1.out
              have hrX : Row wg o11 (ints xs) := HX14.out.no hkg
              have hrD : Row wg o13 (bytes D) := HD14.out.no hkg
              refine ⟨5, f, t, m, na, nb, nc, nd, ((y : Int) == 1), none, o11, o13, 0, co11, co13, [], xs, B1, D, ?_, by rw [HLD.out, HLX.out]; exact HOKM.out, ⟨Row.nil _ _, fun e he => by cases he⟩, ?_, ?_, (fun _ => HSV.out), (fun e he => by cases he), by rw [HLD.out, HLX.out]; rfl⟩
              · have e5 := HK5.out
                rw [hb, e5, hy, (HO10.out.1 h10).1, (HO13.out.1 h11).1, hq2, mby, if_neg (by omega), if_pos rfl, List.append_nil]
                rfl
              · exact hrX.kp hkk (fun g hg => by have := HXB.out g hg; have := HSZ.out; show ¬ (g = w.heap.size ∨ g = w.heap.size + 1); omega)
              · exact hrD.kp hkk (fun g hg => by have := HDB.out g hg; have := HSZ.out; show ¬ (g = w.heap.size ∨ g = w.heap.size + 1); omega)
            · exact get_panic HWg.out.msg HWg.out.err HWg.out.kp rfl rfl
          · generalize (if q11.e ≠ 0 then q11.e else if q11.b.length = 0 then 0 else 21) = er at hq ⊢
            go_wp2_with (go_at_call 30; refine Stop.mk ?_)
            unfold Stop
            have hqb : (er == 0) = false := by simpa using hq
            try rw [hqb]
            refine (demand_no _ _).mono ?_
            rintro e w' ⟨rfl, rfl⟩
            exact get_panic HW14.out.msg HW14.out.err HW14.out.kp rfl rfl
      · have hk5I : ¬ ((k : Int) = 5) := by omega
        have HK35 := Lib.hid (⟨hk3, hk5⟩ : ¬ k = 3 ∧ ¬ k = 5)
        go_wp2_with (go_at_call 22; refine Stop.mk ?_)
        unfold Stop
        refine (end_any HW9.out.rd).mono ?_
        rintro e we ⟨rfl, rfl⟩
        rcases end_or q9 with ⟨hq1, hq2, hq⟩ | hq
        · rw [hq]
          have cm0 := cell_of HW9.out.msg 0 (v := .int .i64 k) rfl
          have cm1 := cell_of HW9.out.msg 1 (v := .int .i64 f) rfl
          have cm2 := cell_of HW9.out.msg 2 (v := .int .i64 t) rfl
          have cm3 := cell_of HW9.out.msg 3 (v := .int .i64 m) rfl
          have cm4 := cell_of HW9.out.msg 4 (v := .int .i64 na) rfl
          have cm5 := cell_of HW9.out.msg 5 (v := .int .i64 nb) rfl
          have cm6 := cell_of HW9.out.msg 6 (v := .int .i64 nc) rfl
          have cm7 := cell_of HW9.out.msg 7 (v := .int .i64 nd) rfl
          have cm8 := cell_of HW9.out.msg 8 (v := .bool ((y : Int) == 1)) rfl
          have cm9 := cell_of HW9.out.msg 9 (v := .slice none 0 0) rfl
          have cm10 := cell_of HW9.out.msg 10 (v := .slice none 0 0) rfl
          have cm11 := cell_of HW9.out.msg 11 (v := .slice none 0 0) rfl
          clear hq
          go_wp2_with (go_at_call 30; refine Stop.mk ?_)
          unfold Stop
          refine (demand_yes _ _).mono ?_
          rintro e wf ⟨rfl, rfl⟩
          go_wp2_with (go_at_call 31; refine Stop.mk ?_)
          unfold Stop
          refine (rightM_any _ k f t m na nb nc nd 21 ((y : Int) == 1) none none none 0 0 0 0 0 0 (by omega) (by omega) (by omega)).mono ?_
          rintro e wg ⟨hkg, hr⟩
          have HWg := Lib.hid (HW9.out.call hkg)
          clear cm0 cm1 cm2 cm3 cm4 cm5 cm6 cm7 cm8 cm9 cm10 cm11
          rcases hr with ⟨hok, rfl⟩ | ⟨_, rfl⟩
          · have HOKM := Lib.hid hok
            have cm0 := cell_of HWg.out.msg 0 (v := .int .i64 k) rfl
            have fm0 := free_of HWg.out.msg 0
            have cm1 := cell_of HWg.out.msg 1 (v := .int .i64 f) rfl
            have fm1 := free_of HWg.out.msg 1
            have cm2 := cell_of HWg.out.msg 2 (v := .int .i64 t) rfl
            have fm2 := free_of HWg.out.msg 2
            have cm3 := cell_of HWg.out.msg 3 (v := .int .i64 m) rfl
            have fm3 := free_of HWg.out.msg 3
            have cm4 := cell_of HWg.out.msg 4 (v := .int .i64 na) rfl
            have fm4 := free_of HWg.out.msg 4
            have cm5 := cell_of HWg.out.msg 5 (v := .int .i64 nb) rfl
            have fm5 := free_of HWg.out.msg 5
            have cm6 := cell_of HWg.out.msg 6 (v := .int .i64 nc) rfl
            have fm6 := free_of HWg.out.msg 6
            have cm7 := cell_of HWg.out.msg 7 (v := .int .i64 nd) rfl
            have fm7 := free_of HWg.out.msg 7
            have cm8 := cell_of HWg.out.msg 8 (v := .bool ((y : Int) == 1)) rfl
            have fm8 := free_of HWg.out.msg 8
            have cm9 := cell_of HWg.out.msg 9 (v := .slice none 0 0) rfl
            have fm9 := free_of HWg.out.msg 9
            have cm10 := cell_of HWg.out.msg 10 (v := .slice none 0 0) rfl
            have fm10 := free_of HWg.out.msg 10
            have cm11 := cell_of HWg.out.msg 11 (v := .slice none 0 0) rfl
            have fm11 := free_of HWg.out.msg 11
            have cee := cell_of HWg.out.err 0 (v := .int .i64 0) rfl
            have fee := free_of HWg.out.err 0
            have hP := set12 (y0 := .int .i64 k) (y1 := .int .i64 f) (y2 := .int .i64 t) (y3 := .int .i64 m) (y4 := .int .i64 na) (y5 := .int .i64 nb) (y6 := .int .i64 nc) (y7 := .int .i64 nd) (y8 := .bool ((y : Int) == 1)) (y9 := .slice none 0 0) (y10 := .slice none 0 0) (y11 := .slice none 0 0) HWg.out.msg
            have k12 := kp12 (w := wg) (b := w.heap.size) (y0 := .int .i64 k) (y1 := .int .i64 f) (y2 := .int .i64 t) (y3 := .int .i64 m) (y4 := .int .i64 na) (y5 := .int .i64 nb) (y6 := .int .i64 nc) (y7 := .int .i64 nd) (y8 := .bool ((y : Int) == 1)) (y9 := .slice none 0 0) (y10 := .slice none 0 0) (y11 := .slice none 0 0)
            have hE := k12.heap HWg.out.err (by omega)
            have HP := Lib.hid hP
            have HK12 := Lib.hid k12
            have HE := Lib.hid hE
            have ce2 := cell_of hE 0 (v := .int .i64 0) rfl
            have fe2 := free_of hE 0
            clear hok hP k12 hE
            go_wp2_with fail
            refine leaves_cons (f := 28) (args := #[.pointer (some ⟨w.heap.size, 0, none⟩), .pointer (some ⟨w.heap.size + 1, 0, none⟩)]) (by simp) (by simp [go_sem]) ?_
            refine (caught28_idle _ _ _).mono ?_
            rintro e u' w9 ⟨rfl, rfl, rfl⟩
            have hP2 := heap_set_other (p := ⟨w.heap.size + 1, 0, none⟩) (u := .int .i64 0) HP.out (by simp)
            have hE2 := heap_set HE.out 0 (.int .i64 0)
            have hK2 := HK12.out
            have hKf := (HWg.out.kp.andThen hK2 (fun i hi e => by omega)).setCell (p := ⟨w.heap.size + 1, 0, none⟩) (.inl (by simp)) (.int .i64 0)
            have hkk : Kp (fun j => j = w.heap.size ∨ j = w.heap.size + 1) wg _ := (hK2.mono (S' := fun j => j = w.heap.size ∨ j = w.heap.size + 1) (fun _ _ h => .inl h)).setCell (p := ⟨w.heap.size + 1, 0, none⟩) (.inl (.inr rfl)) (.int .i64 0)
            have z0 := cell_of hP2 0 (v := .int .i64 k) rfl
            have z1 := cell_of hP2 1 (v := .int .i64 f) rfl
            have z2 := cell_of hP2 2 (v := .int .i64 t) rfl
            have z3 := cell_of hP2 3 (v := .int .i64 m) rfl
            have z4 := cell_of hP2 4 (v := .int .i64 na) rfl
            have z5 := cell_of hP2 5 (v := .int .i64 nb) rfl
            have z6 := cell_of hP2 6 (v := .int .i64 nc) rfl
            have z7 := cell_of hP2 7 (v := .int .i64 nd) rfl
            have z8 := cell_of hP2 8 (v := .bool ((y : Int) == 1)) rfl
            have z9 := cell_of hP2 9 (v := .slice none 0 0) rfl
            have z10 := cell_of hP2 10 (v := .slice none 0 0) rfl
            have z11 := cell_of hP2 11 (v := .slice none 0 0) rfl
            have z12 := cell_of hE2 0 (v := .int .i64 0) rfl
            refine ⟨.tuple #[.agg #[.int .i64 k, .int .i64 f, .int .i64 t, .int .i64 m, .int .i64 na, .int .i64 nb, .int .i64 nc, .int .i64 nd, .bool ((y : Int) == 1), .slice none 0 0, .slice none 0 0, .slice none 0 0], .int .i64 0], by simp [results, Tryz.results9, go_sem, z0, z1, z2, z3, z4, z5, z6, z7, z8, z9, z10, z11, z12], hKf.fin, .inr ?_⟩
            have h9 : q9.e = 0 := hq1
            have h8 := HO8.out.2.1 h9
            have h7 := HO7.out.2.1 h8
            have h6 := HO6.out.2.1 h7
            have h5 := HO5.out.2.1 h6
            have h4 := HO4.out.2.1 h5
            have h3 := HO3.out.2.1 h4
            have h2 := HO2.out.2.1 h3
            have h1 := HO1.out.2.1 h2
            have h0 := HO0.out.2.1 h1
            have hb : b = nby [k, f, t, m, na, nb, nc, nd] ++ (enc y ++ q9.b) := by
              have hq : b = q0.b := by rw [← HQ0.out]
              rw [hq, (HO0.out.1 h1).1, (HO1.out.1 h2).1, (HO2.out.1 h3).1, (HO3.out.1 h4).1, (HO4.out.1 h5).1, (HO5.out.1 h6).1, (HO6.out.1 h7).1, (HO7.out.1 h8).1, (HO8.out.1 h9).1]
              simp [nby]
            have hy : enc y = yby ((y : Int) == 1) := enc_yes HY1.out
            refine ⟨k, f, t, m, na, nb, nc, nd, ((y : Int) == 1), none, none, none, 0, 0, 0, [], [], [], [], ?_, HOKM.out, ⟨Row.nil _ _, fun e he => by cases he⟩, Row.nil _ _, Row.nil _ _, (fun e => absurd e HK35.out.2), (fun e he => by cases he), rfl⟩
            rw [hb, hq2, hy, mby, if_neg HK35.out.1, if_neg HK35.out.2]
          · exact get_panic HWg.out.msg HWg.out.err HWg.out.kp rfl rfl
        · generalize (if q9.e ≠ 0 then q9.e else if q9.b.length = 0 then 0 else 21) = er at hq ⊢
          go_wp2_with (go_at_call 30; refine Stop.mk ?_)
          unfold Stop
          have hqb : (er == 0) = false := by simpa using hq
          try rw [hqb]
          refine (demand_no _ _).mono ?_
          rintro e w' ⟨rfl, rfl⟩
          exact get_panic HW9.out.msg HW9.out.err HW9.out.kp rfl rfl
  · have hyI : ¬ ((y : Int) ≤ 1) := by omega
    have hyb : decide ((y : Int) ≤ 1) = false := by simpa using hyI
    clear hgi8 hy1 hyI
    go_wp2_with (go_at_call 30; refine Stop.mk ?_)
    unfold Stop
    try rw [hyb]
    refine (demand_no _ _).mono ?_
    rintro e w' ⟨rfl, rfl⟩
    exact get_panic HWa.out.msg HWa.out.err HWa.out.kp rfl rfl
end Go.Proofs.YtecohkoekifeiaaGreatDoor
