/-
  message.Put, walked once.
-/
import Derived.Test.YtecohkoekifeiaaGreatDoorXh
import Derived.Test.YtecohkoekifeiaaGreatDoorXd
set_option linter.all false
namespace Go.Proofs.YtecohkoekifeiaaGreatDoor
open Go.ChangeShapes Go.WideShapes Go.ChangeAt Go.RowKit
set_option linter.unusedVariables false
set_option linter.unusedSimpArgs false

/-- An entry and where its bytes lie. -/
structure Ep where
  x : En
  a : Option Addr
  c : Nat
def Ep.cells (e : Ep) : List Value := [.int .i64 e.x.term, .int .i64 e.x.index, .int .i64 e.x.kind, .slice e.a e.x.data.length e.c]
/-- Entries in memory. -/
structure Eps (w : World) (p : Option Addr) (l : List Ep) : Prop where
  row : Row w p (l.flatMap Ep.cells)
  each : ∀ e ∈ l, Row w e.a (bytes e.x.data)

@[local go_sem] theorem idx71_0 (v0 v1 v2 v3 v4 v5 v6 v7 : Value) (w : World) : (Instr.index 71 (.agg #[v0, v1, v2, v3, v4, v5, v6, v7]) (.int .i64 0)).run Tryz.prog w = .ok v0 w := by kernel_rfl
@[local go_sem] theorem idx71_1 (v0 v1 v2 v3 v4 v5 v6 v7 : Value) (w : World) : (Instr.index 71 (.agg #[v0, v1, v2, v3, v4, v5, v6, v7]) (.int .i64 1)).run Tryz.prog w = .ok v1 w := by kernel_rfl
@[local go_sem] theorem idx71_2 (v0 v1 v2 v3 v4 v5 v6 v7 : Value) (w : World) : (Instr.index 71 (.agg #[v0, v1, v2, v3, v4, v5, v6, v7]) (.int .i64 2)).run Tryz.prog w = .ok v2 w := by kernel_rfl
@[local go_sem] theorem idx71_3 (v0 v1 v2 v3 v4 v5 v6 v7 : Value) (w : World) : (Instr.index 71 (.agg #[v0, v1, v2, v3, v4, v5, v6, v7]) (.int .i64 3)).run Tryz.prog w = .ok v3 w := by kernel_rfl
@[local go_sem] theorem idx71_4 (v0 v1 v2 v3 v4 v5 v6 v7 : Value) (w : World) : (Instr.index 71 (.agg #[v0, v1, v2, v3, v4, v5, v6, v7]) (.int .i64 4)).run Tryz.prog w = .ok v4 w := by kernel_rfl
@[local go_sem] theorem idx71_5 (v0 v1 v2 v3 v4 v5 v6 v7 : Value) (w : World) : (Instr.index 71 (.agg #[v0, v1, v2, v3, v4, v5, v6, v7]) (.int .i64 5)).run Tryz.prog w = .ok v5 w := by kernel_rfl
@[local go_sem] theorem idx71_6 (v0 v1 v2 v3 v4 v5 v6 v7 : Value) (w : World) : (Instr.index 71 (.agg #[v0, v1, v2, v3, v4, v5, v6, v7]) (.int .i64 6)).run Tryz.prog w = .ok v6 w := by kernel_rfl
@[local go_sem] theorem idx71_7 (v0 v1 v2 v3 v4 v5 v6 v7 : Value) (w : World) : (Instr.index 71 (.agg #[v0, v1, v2, v3, v4, v5, v6, v7]) (.int .i64 7)).run Tryz.prog w = .ok v7 w := by kernel_rfl
/-- Put's two results while it runs. -/
def PI (w : World) (box : Array Value) (X : List Int) (oa : Option Addr) (co : Nat) (wr : World) : Prop :=
  wr.heap[w.heap.size]? = some (.cells box 37 (0, 0)) ∧ wr.heap[w.heap.size + 1]? = some (.cells #[.slice oa X.length co] 22 (0, 0)) ∧ wr.heap[w.heap.size + 1 + 1]? = some (.cells #[.int .i64 0] 25 (0, 0)) ∧
    Owns wr (w.heap.size + 3) 5 1 oa X.length co (bytes X) ∧ Kp (fun j => w.heap.size ≤ j) w wr ∧ w.heap.size + 3 ≤ wr.heap.size

theorem PI.call {w : World} {box : Array Value} {X : List Int} {oa : Option Addr} {co : Nat} {wr w' : World} (h : PI w box X oa co wr) (k : Kp (fun _ => False) wr w') : PI w box X oa co w' :=
  ⟨k.heap h.1 (fun h => h), k.heap h.2.1 (fun h => h), k.heap h.2.2.1 (fun h => h), h.2.2.2.1.kp k (fun _ _ h => h), h.2.2.2.2.1.andThen k (fun _ _ h => h.elim), Nat.le_trans h.2.2.2.2.2 k.size⟩

theorem PI.put {w : World} {box : Array Value} {X Y : List Int} {oa a' : Option Addr} {co c' : Nat} {wr w' : World} (h : PI w box X oa co wr) (ho : Owns w' (w.heap.size + 3) 5 1 a' (X ++ Y).length c' (bytes (X ++ Y))) (k : Kp (fun j => some j = blockOf oa) wr w') :
    PI w box (X ++ Y) a' c' (w'.setCell ⟨w.heap.size + 1, 0, none⟩ (.slice a' (X ++ Y).length c')) := by
  have hge : ∀ q, blockOf oa = some q → w.heap.size + 3 ≤ q := fun q hq => (h.2.2.2.1.from hq).1
  have n0 : ¬ (some w.heap.size = blockOf oa) := fun e => by have := hge _ e.symm; omega
  have n1 : ¬ (some (w.heap.size + 1) = blockOf oa) := fun e => by have := hge _ e.symm; omega
  have n2 : ¬ (some (w.heap.size + 1 + 1) = blockOf oa) := fun e => by have := hge _ e.symm; omega
  have k2 : Kp (fun j => j = w.heap.size + 1) w' (w'.setCell ⟨w.heap.size + 1, 0, none⟩ (.slice a' (X ++ Y).length c')) := (Kp.refl (fun j => j = w.heap.size + 1) w').setCell (p := ⟨w.heap.size + 1, 0, none⟩) (.inl rfl) _
  refine ⟨k2.heap (k.heap h.1 n0) (by omega), heap_set (k.heap h.2.1 n1) 0 _, k2.heap (k.heap h.2.2.1 n2) (by omega), ho.kp k2 (fun q hq => by have := (ho.from hq).1; omega), ?_, Nat.le_trans h.2.2.2.2.2 (Nat.le_trans k.size k2.size)⟩
  exact (h.2.2.2.2.1.andThen k (fun i hi e => by have := hge i e.symm; omega)).andThen k2 (fun i hi e => by omega)

/-- The bytes of numbers. -/
def nby (l : List Nat) : List Int := l.flatMap enc
theorem nby_len : ∀ {l : List Nat}, (∀ z ∈ l, z < 281474976710656) → (nby l).length ≤ 9 * l.length
  | [], _ => by simp [nby]
  | z :: r, h => by
    have h1 := enc_len (n := z) (by have := h z (by simp); omega)
    have h2 := nby_len (l := r) (fun y hy => h y (by simp [hy]))
    simp only [nby, List.flatMap_cons, List.length_append, List.length_cons] at h2 ⊢
    omega
/-- What Put leaves. -/
def PutMAt (w : World) (Z : List Int) (r : Ending) (w' : World) : Prop :=
  ∃ o co, r = .returned (.tuple #[.slice o Z.length co, .int .i64 0]) ∧ Row w' o (bytes Z) ∧ Kp (fun _ => False) w w'
theorem PI.fin {w : World} {box : Array Value} {Z : List Int} {oa : Option Addr} {co : Nat} {V : World} (h : PI w box Z oa co V) :
    ((V.setCell ⟨w.heap.size + 1, 0, none⟩ (.slice oa Z.length co)).setCell ⟨w.heap.size + 1 + 1, 0, none⟩ (.int .i64 0)).cell? ⟨w.heap.size + 1, 0, none⟩ = some (.slice oa Z.length co) ∧
    ((V.setCell ⟨w.heap.size + 1, 0, none⟩ (.slice oa Z.length co)).setCell ⟨w.heap.size + 1 + 1, 0, none⟩ (.int .i64 0)).cell? ⟨w.heap.size + 1 + 1, 0, none⟩ = some (.int .i64 0) ∧
    PutMAt w Z (.returned (.tuple #[.slice oa Z.length co, .int .i64 0])) ((V.setCell ⟨w.heap.size + 1, 0, none⟩ (.slice oa Z.length co)).setCell ⟨w.heap.size + 1 + 1, 0, none⟩ (.int .i64 0)) := by
  have a1 := heap_set_other (p := ⟨w.heap.size + 1 + 1, 0, none⟩) (u := .int .i64 0) (heap_set h.2.1 0 (.slice oa Z.length co)) (by simp)
  have a2 := heap_set (heap_set_other (p := ⟨w.heap.size + 1, 0, none⟩) (u := .slice oa Z.length co) h.2.2.1 (by simp)) 0 (.int .i64 0)
  have k2 : Kp (fun j => j = w.heap.size + 1 ∨ j = w.heap.size + 1 + 1) V ((V.setCell ⟨w.heap.size + 1, 0, none⟩ (.slice oa Z.length co)).setCell ⟨w.heap.size + 1 + 1, 0, none⟩ (.int .i64 0)) :=
    ((Kp.refl (fun j => j = w.heap.size + 1 ∨ j = w.heap.size + 1 + 1) V).setCell (p := ⟨w.heap.size + 1, 0, none⟩) (.inl (.inl rfl)) _).setCell (p := ⟨w.heap.size + 1 + 1, 0, none⟩) (.inl (.inr rfl)) _
  refine ⟨cell_of a1 0 rfl, cell_of a2 0 rfl, oa, co, rfl, h.2.2.2.1.row.kp k2 (fun q hq => by have := (h.2.2.2.1.from hq).1; omega), (h.2.2.2.2.1.andThen k2 (fun i hi e => by omega)).fin⟩
theorem PI.set {w : World} {box : Array Value} {X Y : List Int} {oa a' : Option Addr} {co c' : Nat} {wr : World} (h : PI w box X oa co wr) (ho : Owns wr (w.heap.size + 3) 5 1 a' Y.length c' (bytes Y)) :
    PI w box Y a' c' (wr.setCell ⟨w.heap.size + 1, 0, none⟩ (.slice a' Y.length c')) := by
  have k2 : Kp (fun j => j = w.heap.size + 1) wr (wr.setCell ⟨w.heap.size + 1, 0, none⟩ (.slice a' Y.length c')) := (Kp.refl (fun j => j = w.heap.size + 1) wr).setCell (p := ⟨w.heap.size + 1, 0, none⟩) (.inl rfl) _
  exact ⟨k2.heap h.1 (by omega), heap_set h.2.1 0 _, k2.heap h.2.2.1 (by omega), ho.kp k2 (fun q hq => by have := (ho.from hq).1; omega), h.2.2.2.2.1.andThen k2 (fun i hi e => by omega), Nat.le_trans h.2.2.2.2.2 k2.size⟩
theorem join3 {w : World} {x y z : List Int} {ox oy oz : Option Addr} (cx cy cz : Nat) (hx : Row w ox (bytes x)) (hy : Row w oy (bytes y)) (hz : Row w oz (bytes z)) (hl : x.length + (y.length + z.length) ≤ 140737488355328) :
    Calls Tryz.prog 25 #[.slice (some ⟨w.heap.size, 0, none⟩) 3 3] (w.alloc (.cells #[.slice ox x.length cx, .slice oy y.length cy, .slice oz z.length cz] 22)) fun e w' => ∃ o co, e = .returned (.slice o (x ++ (y ++ z)).length co) ∧
      Owns w' (w.alloc (.cells #[.slice ox x.length cx, .slice oy y.length cy, .slice oz z.length cz] 22)).heap.size 5 1 o (x ++ (y ++ z)).length co (bytes (x ++ (y ++ z))) ∧ Kp (fun _ => False) (w.alloc (.cells #[.slice ox x.length cx, .slice oy y.length cy, .slice oz z.length cz] 22)) w' := by
  have hp := Pts.new (w := w) (l := [⟨ox, x, cx⟩, ⟨oy, y, cy⟩, ⟨oz, z, cz⟩]) (cs := #[Value.slice ox x.length cx, Value.slice oy y.length cy, Value.slice oz z.length cz]) rfl (by
    intro r hr
    simp only [List.mem_cons, List.not_mem_nil, or_false] at hr
    rcases hr with rfl | rfl | rfl
    · exact hx
    · exact hy
    · exact hz)
  have hfl : flat [⟨ox, x, cx⟩, ⟨oy, y, cy⟩, ⟨oz, z, cz⟩] = x ++ (y ++ z) := by simp [flat]
  have hj := join_any hp (by rw [hfl]; simp only [List.length_append]; omega) (by simp) 3
  rw [hfl] at hj
  exact hj
theorem wp_only {P : Program} {c : Code} {Q : Exit → Act → World → Prop} {a : Act} {w : World} (h : c.wp P (fun e a w => e = .normal ∧ Q e a w) a w) : c.wp P Q a w :=
  wp_mono h (fun _ _ _ hh => hh.2)
theorem flat4 : ∀ {l : List Ep} {n : Nat} {e : Ep}, l[n]? = some e → ∀ q, q < 4 → (l.flatMap Ep.cells)[4 * n + q]? = e.cells[q]?
  | [], n, e, h, q, hq => by simp at h
  | x :: r, 0, e, h, q, hq => by
    simp only [List.getElem?_cons_zero, Option.some.injEq] at h
    subst h
    rw [List.flatMap_cons, Nat.mul_zero, Nat.zero_add]
    exact List.getElem?_append_left (by simp [Ep.cells]; omega)
  | x :: r, n + 1, e, h, q, hq => by
    rw [List.getElem?_cons_succ] at h
    have := flat4 h q hq
    rw [List.flatMap_cons, List.getElem?_append_right (by simp [Ep.cells]; omega)]
    rw [show 4 * (n + 1) + q - x.cells.length = 4 * n + q by simp [Ep.cells]; omega]
    exact this
theorem okE_len {x : En} (h : okE x = true) : x.data.length ≤ 4096 := by
  unfold okE at h
  split at h
  · cases h
  · split at h
    · simp at h
      simp [h]
    · split at h
      · simpa using h
      · split at h
        · cases hg : getS x.data with
          | none => rw [hg] at h; cases h
          | some xs =>
            have := (srv_len (getS_back hg)).1
            omega
        · cases h
theorem putE_len {x : En} (h : okE x = true) : (putE x).length ≤ 5000 := by
  have h1 := okE_len h
  have h2 := okE_data h
  have e1 := enc_len (n := x.term) (by omega)
  have e2 := enc_len (n := x.index) (by omega)
  have e3 := enc_len (n := x.kind) (by omega)
  have e4 := encB_len (b := x.data) (by omega)
  have e5 : putE x = enc x.term ++ enc x.index ++ enc x.kind ++ encB x.data := rfl
  rw [e5]
  simp only [List.length_append]
  omega
/-- Entries, as they are written. -/
def eby (l : List Ep) : List Int := l.flatMap (fun e => encB (putE e.x))
theorem eby_len : ∀ {l : List Ep}, (∀ e ∈ l, okE e.x = true) → (eby l).length ≤ 5009 * l.length
  | [], _ => by simp [eby]
  | e :: r, h => by
    have h1 := putE_len (h e (by simp))
    have h2 := encB_len (b := putE e.x) (by omega)
    have h3 := eby_len (l := r) (fun y hy => h y (by simp [hy]))
    simp only [eby, List.flatMap_cons, List.length_append, List.length_cons] at h3 ⊢
    omega
theorem oper_app {P : Program} {w : World} {o : Oper} {ac : Act} {K : Act → World → Prop} {Q : Exit → Act → World → Prop} (s x : Operand) (t : TypeId)
    (ho : o.op = .call { callee := .builtin .append, args := #[s, x], argTypes := #[t, t] })
    (B : Nat) (e : TypeId) {size bytes : Nat} {z : Value} (hinfo : (P.info? e).map (fun i => (i.zero, i.size, i.bytes)) = some (some z, size, bytes)) (ht : P.underlying t = some (.slice e)) (hzs : z.cells.size = size) (hsz : 0 < size)
    {a : Option Addr} {n cap : Nat} {xs : List Value} (hs : ac.eval s = .slice a n cap) (hown : Owns w B e size a n cap xs)
    {ad : Addr} {m c : Nat} {news : List Value} (hx : ac.eval x = .slice (some ad) m c) (hl : news.length = m * size) (hnews : ∀ j u, news[j]? = some u → w.cell? (ad.add j) = some u) (h1 : ∀ u ∈ news, u.oneCell' = true)
    (h63 : n + m ≤ maxLen) (hbytes : (n + m) * bytes ≤ 140737488355328) (hbase : B ≤ w.heap.size)
    (h : ∀ a' cap' w', Owns w' B e size a' (n + m) cap' (xs ++ news) → Kp (fun k => some k = blockOf a) w w' → K (ac.put o.dst (.slice a' (n + m) cap')) w') : o.wp P ac w K Q := by
  obtain ⟨i, hi, hz0, hz1, hz2⟩ := info_parts hinfo
  refine wp_append_own w s x t ho B e i z size bytes ht hi hz0 hz1 hz2 hzs hsz _ n xs hs hown ad m c news hx hl hnews h1 h63 hbytes hbase ?_
  intro v' w' hown' hg _
  obtain ⟨a', cap', rfl, ho'⟩ := Owns.shape hown'
  refine h a' cap' w' ho' ?_
  have := Kp.of_grown hg
  rw [blockOf_own] at this
  exact this
theorem meas1 {n ne : Nat} (h : n < ne) : ne - (intOf (.int .i64 ((n : Int) + 1))).toNat < ne - (intOf (.int .i64 (n : Int))).toNat := by
  show ne - ((n : Int) + 1).toNat < ne - (n : Int).toNat
  omega
/-- Yes, or no. -/
def yby (y : Bool) : List Int := if y then [1, 1] else [0]
/-- A message, as it is written. -/
def mby (k f t m a b c d : Nat) (yes : Bool) (es : List En) (bs dd : List Int) : List Int :=
  nby [k, f, t, m, a, b, c, d] ++ (yby yes ++ (if k = 3 then enc es.length ++ es.flatMap (fun e => encB (putE e)) else if k = 5 then encB bs ++ encB dd else []))

set_option maxRecDepth 100000 in
set_option maxHeartbeats 4000000 in
theorem mPut_good {w : World} (k f t m a b c d : Nat) (yes : Bool) (oe os od : Option Addr) (ne ce ns cs nd cd : Nat) (h1 : ne ≤ 1073741824) (h2 : ns ≤ 1073741824) (h3 : nd ≤ 1073741824) (hok : okM k f t m a b c d ne ns nd)
    (es : List Ep) (xs bs dd : List Int) (hes : Eps w oe es) (hne : es.length = ne) (hxs : Row w os (ints xs)) (hns : xs.length = ns) (hdd : Row w od (bytes dd)) (hnd : dd.length = nd)
    (hks : k = 5 → srv xs = some bs) (hke : ∀ e ∈ es, okE e.x = true ∧ Byte e.x.data ∧ e.x.data.length ≤ 1048576) :
    Calls Tryz.prog 10 #[.agg #[.int .i64 k, .int .i64 f, .int .i64 t, .int .i64 m, .int .i64 a, .int .i64 b, .int .i64 c, .int .i64 d, .bool yes, .slice oe ne ce, .slice os ns cs, .slice od nd cd]] w (PutMAt w (mby k f t m a b c d yes (es.map Ep.x) bs dd)) := by
  have HM := Lib.hid (fun u => rightM_any u k f t m a b c d 1 yes oe os od ne ce ns cs nd cd h1 h2 h3)
  have hlt : k < 281474976710656 ∧ f < 281474976710656 ∧ t < 281474976710656 ∧ m < 281474976710656 ∧ a < 281474976710656 ∧ b < 281474976710656 ∧ c < 281474976710656 ∧ d < 281474976710656 := by
    unfold okM at hok
    omega
  have HLT := Lib.hid hlt
  have HOK := Lib.hid hok
  have HF := Lib.hid (fun u => fields_any u w.heap.size)
  have HES := Lib.hid hes
  have HXS := Lib.hid hxs
  have HDD := Lib.hid hdd
  have HKS := Lib.hid hks
  have HKE := Lib.hid hke
  have HNE := Lib.hid hne
  have HNS := Lib.hid hns
  have HND := Lib.hid hnd
  have hnd6 : nd ≤ 65536 := hok.2.2.1.2.2
  have HND6 := Lib.hid hnd6
  clear hok hnd6 hlt hes hxs hdd hks hke hne hns hnd
  generalize hzk : (k : Int) = kz at HM HOK ⊢
  generalize hzf : (f : Int) = fz at HM HOK ⊢
  generalize hzt : (t : Int) = tz at HM HOK ⊢
  generalize hzm : (m : Int) = mz at HM HOK ⊢
  generalize hza : (a : Int) = az at HM HOK ⊢
  generalize hzb : (b : Int) = bz at HM HOK ⊢
  generalize hzc : (c : Int) = cz at HM HOK ⊢
  generalize hzd : (d : Int) = dz at HM HOK ⊢
  have HZ := Lib.hid (⟨hzk, hzf, hzt, hzm, hza, hzb, hzc, hzd⟩ : (k : Int) = kz ∧ (f : Int) = fz ∧ (t : Int) = tz ∧ (m : Int) = mz ∧ (a : Int) = az ∧ (b : Int) = bz ∧ (c : Int) = cz ∧ (d : Int) = dz)
  clear hzk hzf hzt hzm hza hzb hzc hzd
  go_enter_defers Tryz.func10, Tryz.ntmps10
  go_wp2_with (go_at_call 31; refine Stop.mk ?_)
  unfold Stop
  have hPI : PI w #[.int .i64 kz, .int .i64 fz, .int .i64 tz, .int .i64 mz, .int .i64 az, .int .i64 bz, .int .i64 cz, .int .i64 dz, .bool yes, .slice oe ne ce, .slice os ns cs, .slice od nd cd] [] none 0 (((w.alloc (.cells #[.int .i64 kz, .int .i64 fz, .int .i64 tz, .int .i64 mz, .int .i64 az, .int .i64 bz, .int .i64 cz, .int .i64 dz, .bool yes, .slice oe ne ce, .slice os ns cs, .slice od nd cd] 37)).alloc (.cells #[.slice none 0 0] 22)).alloc (.cells #[.int .i64 0] 25)) := by
    refine ⟨heap_old _ (heap_old _ (heap_new w _)), ?_, ?_, Owns.nil _ _ _ _, (((Kp.refl _ w).alloc _).alloc _).alloc _, by simp⟩
    · have := heap_new (w.alloc (.cells #[.int .i64 kz, .int .i64 fz, .int .i64 tz, .int .i64 mz, .int .i64 az, .int .i64 bz, .int .i64 cz, .int .i64 dz, .bool yes, .slice oe ne ce, .slice os ns cs, .slice od nd cd] 37)) (.cells #[.slice none 0 0] 22)
      rw [World.size_alloc] at this
      exact heap_old _ this
    · have := heap_new ((w.alloc (.cells #[.int .i64 kz, .int .i64 fz, .int .i64 tz, .int .i64 mz, .int .i64 az, .int .i64 bz, .int .i64 cz, .int .i64 dz, .bool yes, .slice oe ne ce, .slice os ns cs, .slice od nd cd] 37)).alloc (.cells #[.slice none 0 0] 22)) (.cells #[.int .i64 0] 25)
      rw [World.size_alloc, World.size_alloc] at this
      exact this
  refine (HM.out _).mono ?_
  rintro r w1 ⟨hk1, hr⟩
  obtain rfl : r = .returned (.tuple #[]) := by
    rcases hr with ⟨_, h⟩ | ⟨h, _⟩
    · exact h
    · exact absurd HOK.out h
  have hP1 := hPI.call hk1
  have HP1 := Lib.hid hP1
  clear hPI hk1 hr hP1
  go_wp2_with (go_at_call 29; refine Stop.mk ?_)
  unfold Stop
  refine (HF.out _).mono ?_
  rintro r w2 ⟨rfl, hk2⟩
  have HP2 := Lib.hid (HP1.out.call hk2)
  clear hk2 HP1 HF HM
  unfold ptrs
  go_wp2_with fail
  go_loopw [20] (fun i wr => ∃ (n : Nat) (oa : Option Addr) (co : Nat), i = .int .i64 n ∧ n ≤ 8 ∧ PI w #[.int .i64 kz, .int .i64 fz, .int .i64 tz, .int .i64 mz, .int .i64 az, .int .i64 bz, .int .i64 cz, .int .i64 dz, .bool yes, .slice oe ne ce, .slice os ns cs, .slice od nd cd] (nby ([k, f, t, m, a, b, c, d].take n)) oa co wr) (fun i _ => 8 - (intOf i).toNat)
  case atStart => exact ⟨0, none, 0, rfl, by omega, HP2.out⟩
  case round =>
    obtain ⟨n, oa, co, rfl, hn, hp⟩ := hrel
    have HP := Lib.hid hp
    clear hp
    by_cases hlt : n < 8
    · rcases (by omega : n = 0 ∨ n = 1 ∨ n = 2 ∨ n = 3 ∨ n = 4 ∨ n = 5 ∨ n = 6 ∨ n = 7) with rfl | rfl | rfl | rfl | rfl | rfl | rfl | rfl
      · have c1 := cell_of HP.out.1 0 (v := .int .i64 kz) rfl
        have HN := Lib.hid (fun u => putNumber_good u k (by have := HLT.out; omega))
        rw [show (k : Int) = kz from HZ.out.1] at HN
        generalize hX : nby ([k, f, t, m, a, b, c, d].take 0) = X at HP
        have hXl : X.length ≤ 72 := by
          rw [← hX]
          refine Nat.le_trans (nby_len (fun y hy => ?_)) (by simp)
          have h9 := List.mem_of_mem_take hy
          simp only [List.mem_cons, List.not_mem_nil, or_false] at h9
          have := HLT.out
          omega
        have HX := Lib.hid hX
        clear hX
        go_wp2_with (go_at_call 33; refine Stop.mk ?_)
        unfold Stop
        refine (HN.out _).mono ?_
        rintro r w4 ⟨o4, c4, rfl, ho4, hk4⟩
        have hp4 := HP.out.call hk4
        have c2 := cell_of hp4.2.1 0 (v := .slice oa X.length co) rfl
        have f2 := free_of hp4.2.1 0
        have HP4 := Lib.hid hp4
        have HO4 := Lib.hid ho4
        generalize hE : enc k = E at HO4 ⊢
        have hEl : E.length ≤ 9 := by rw [← hE]; exact enc_len (by have := HLT.out; omega)
        have HE := Lib.hid hE
        clear hp4 ho4 hk4 c1 HN hE
        go_wp2_with (at_builtin; refine Stop.mk ?_)
        unfold Stop
        refine wpList_app rfl _ _ 22 rfl (w.heap.size + 3) 5 info5 Tryz.underlying22 rfl (by decide) rfl HP4.out.2.2.2.1 rfl (news := bytes E) (by simp [bytes]) HO4.out.row.news (one_bytes _) (by unfold maxLen; omega) (by omega) HP4.out.2.2.2.2.2 ?_
        intro a5 c5 w5 ho5 hk5
        rw [show X.length + E.length = (X ++ E).length by simp, show bytes X ++ bytes E = bytes (X ++ E) by simp [bytes]] at ho5
        have hp5 := HP4.out.put ho5 hk5
        have n1 : ¬ (some (w.heap.size + 1) = blockOf oa) := fun e => by have := (HP4.out.2.2.2.1.from e.symm).1; omega
        have g2 := hk5.heap HP4.out.2.1 n1
        have c3 := cell_of g2 0 (v := .slice oa X.length co) rfl
        have f3 := free_of g2 0
        have HP5 := Lib.hid hp5
        rw [show X.length + E.length = (X ++ E).length by simp]
        have hXE : X ++ E = nby ([k, f, t, m, a, b, c, d].take (0 + 1)) := by rw [← HX.out, ← HE.out]; simp [nby]
        generalize X ++ E = XE at HP5 hXE ⊢
        have HXE := Lib.hid hXE
        clear c2 f2 ho5 hk5 hp5 n1 g2 hXE
        go_wp2
        go_roundw
        case rel => exact ⟨1, a5, c5, rfl, by omega, HXE.out ▸ HP5.out⟩
        case measure => simp [intOf]
      · have c1 := cell_of HP.out.1 1 (v := .int .i64 fz) rfl
        have HN := Lib.hid (fun u => putNumber_good u f (by have := HLT.out; omega))
        rw [show (f : Int) = fz from HZ.out.2.1] at HN
        generalize hX : nby ([k, f, t, m, a, b, c, d].take 1) = X at HP
        have hXl : X.length ≤ 72 := by
          rw [← hX]
          refine Nat.le_trans (nby_len (fun y hy => ?_)) (by simp)
          have h9 := List.mem_of_mem_take hy
          simp only [List.mem_cons, List.not_mem_nil, or_false] at h9
          have := HLT.out
          omega
        have HX := Lib.hid hX
        clear hX
        go_wp2_with (go_at_call 33; refine Stop.mk ?_)
        unfold Stop
        refine (HN.out _).mono ?_
        rintro r w4 ⟨o4, c4, rfl, ho4, hk4⟩
        have hp4 := HP.out.call hk4
        have c2 := cell_of hp4.2.1 0 (v := .slice oa X.length co) rfl
        have f2 := free_of hp4.2.1 0
        have HP4 := Lib.hid hp4
        have HO4 := Lib.hid ho4
        generalize hE : enc f = E at HO4 ⊢
        have hEl : E.length ≤ 9 := by rw [← hE]; exact enc_len (by have := HLT.out; omega)
        have HE := Lib.hid hE
        clear hp4 ho4 hk4 c1 HN hE
        go_wp2_with (at_builtin; refine Stop.mk ?_)
        unfold Stop
        refine wpList_app rfl _ _ 22 rfl (w.heap.size + 3) 5 info5 Tryz.underlying22 rfl (by decide) rfl HP4.out.2.2.2.1 rfl (news := bytes E) (by simp [bytes]) HO4.out.row.news (one_bytes _) (by unfold maxLen; omega) (by omega) HP4.out.2.2.2.2.2 ?_
        intro a5 c5 w5 ho5 hk5
        rw [show X.length + E.length = (X ++ E).length by simp, show bytes X ++ bytes E = bytes (X ++ E) by simp [bytes]] at ho5
        have hp5 := HP4.out.put ho5 hk5
        have n1 : ¬ (some (w.heap.size + 1) = blockOf oa) := fun e => by have := (HP4.out.2.2.2.1.from e.symm).1; omega
        have g2 := hk5.heap HP4.out.2.1 n1
        have c3 := cell_of g2 0 (v := .slice oa X.length co) rfl
        have f3 := free_of g2 0
        have HP5 := Lib.hid hp5
        rw [show X.length + E.length = (X ++ E).length by simp]
        have hXE : X ++ E = nby ([k, f, t, m, a, b, c, d].take (1 + 1)) := by rw [← HX.out, ← HE.out]; simp [nby]
        generalize X ++ E = XE at HP5 hXE ⊢
        have HXE := Lib.hid hXE
        clear c2 f2 ho5 hk5 hp5 n1 g2 hXE
        go_wp2
        go_roundw
        case rel => exact ⟨2, a5, c5, rfl, by omega, HXE.out ▸ HP5.out⟩
        case measure => simp [intOf]
      · have c1 := cell_of HP.out.1 2 (v := .int .i64 tz) rfl
        have HN := Lib.hid (fun u => putNumber_good u t (by have := HLT.out; omega))
        rw [show (t : Int) = tz from HZ.out.2.2.1] at HN
        generalize hX : nby ([k, f, t, m, a, b, c, d].take 2) = X at HP
        have hXl : X.length ≤ 72 := by
          rw [← hX]
          refine Nat.le_trans (nby_len (fun y hy => ?_)) (by simp)
          have h9 := List.mem_of_mem_take hy
          simp only [List.mem_cons, List.not_mem_nil, or_false] at h9
          have := HLT.out
          omega
        have HX := Lib.hid hX
        clear hX
        go_wp2_with (go_at_call 33; refine Stop.mk ?_)
        unfold Stop
        refine (HN.out _).mono ?_
        rintro r w4 ⟨o4, c4, rfl, ho4, hk4⟩
        have hp4 := HP.out.call hk4
        have c2 := cell_of hp4.2.1 0 (v := .slice oa X.length co) rfl
        have f2 := free_of hp4.2.1 0
        have HP4 := Lib.hid hp4
        have HO4 := Lib.hid ho4
        generalize hE : enc t = E at HO4 ⊢
        have hEl : E.length ≤ 9 := by rw [← hE]; exact enc_len (by have := HLT.out; omega)
        have HE := Lib.hid hE
        clear hp4 ho4 hk4 c1 HN hE
        go_wp2_with (at_builtin; refine Stop.mk ?_)
        unfold Stop
        refine wpList_app rfl _ _ 22 rfl (w.heap.size + 3) 5 info5 Tryz.underlying22 rfl (by decide) rfl HP4.out.2.2.2.1 rfl (news := bytes E) (by simp [bytes]) HO4.out.row.news (one_bytes _) (by unfold maxLen; omega) (by omega) HP4.out.2.2.2.2.2 ?_
        intro a5 c5 w5 ho5 hk5
        rw [show X.length + E.length = (X ++ E).length by simp, show bytes X ++ bytes E = bytes (X ++ E) by simp [bytes]] at ho5
        have hp5 := HP4.out.put ho5 hk5
        have n1 : ¬ (some (w.heap.size + 1) = blockOf oa) := fun e => by have := (HP4.out.2.2.2.1.from e.symm).1; omega
        have g2 := hk5.heap HP4.out.2.1 n1
        have c3 := cell_of g2 0 (v := .slice oa X.length co) rfl
        have f3 := free_of g2 0
        have HP5 := Lib.hid hp5
        rw [show X.length + E.length = (X ++ E).length by simp]
        have hXE : X ++ E = nby ([k, f, t, m, a, b, c, d].take (2 + 1)) := by rw [← HX.out, ← HE.out]; simp [nby]
        generalize X ++ E = XE at HP5 hXE ⊢
        have HXE := Lib.hid hXE
        clear c2 f2 ho5 hk5 hp5 n1 g2 hXE
        go_wp2
        go_roundw
        case rel => exact ⟨3, a5, c5, rfl, by omega, HXE.out ▸ HP5.out⟩
        case measure => simp [intOf]
      · have c1 := cell_of HP.out.1 3 (v := .int .i64 mz) rfl
        have HN := Lib.hid (fun u => putNumber_good u m (by have := HLT.out; omega))
        rw [show (m : Int) = mz from HZ.out.2.2.2.1] at HN
        generalize hX : nby ([k, f, t, m, a, b, c, d].take 3) = X at HP
        have hXl : X.length ≤ 72 := by
          rw [← hX]
          refine Nat.le_trans (nby_len (fun y hy => ?_)) (by simp)
          have h9 := List.mem_of_mem_take hy
          simp only [List.mem_cons, List.not_mem_nil, or_false] at h9
          have := HLT.out
          omega
        have HX := Lib.hid hX
        clear hX
        go_wp2_with (go_at_call 33; refine Stop.mk ?_)
        unfold Stop
        refine (HN.out _).mono ?_
        rintro r w4 ⟨o4, c4, rfl, ho4, hk4⟩
        have hp4 := HP.out.call hk4
        have c2 := cell_of hp4.2.1 0 (v := .slice oa X.length co) rfl
        have f2 := free_of hp4.2.1 0
        have HP4 := Lib.hid hp4
        have HO4 := Lib.hid ho4
        generalize hE : enc m = E at HO4 ⊢
        have hEl : E.length ≤ 9 := by rw [← hE]; exact enc_len (by have := HLT.out; omega)
        have HE := Lib.hid hE
        clear hp4 ho4 hk4 c1 HN hE
        go_wp2_with (at_builtin; refine Stop.mk ?_)
        unfold Stop
        refine wpList_app rfl _ _ 22 rfl (w.heap.size + 3) 5 info5 Tryz.underlying22 rfl (by decide) rfl HP4.out.2.2.2.1 rfl (news := bytes E) (by simp [bytes]) HO4.out.row.news (one_bytes _) (by unfold maxLen; omega) (by omega) HP4.out.2.2.2.2.2 ?_
        intro a5 c5 w5 ho5 hk5
        rw [show X.length + E.length = (X ++ E).length by simp, show bytes X ++ bytes E = bytes (X ++ E) by simp [bytes]] at ho5
        have hp5 := HP4.out.put ho5 hk5
        have n1 : ¬ (some (w.heap.size + 1) = blockOf oa) := fun e => by have := (HP4.out.2.2.2.1.from e.symm).1; omega
        have g2 := hk5.heap HP4.out.2.1 n1
        have c3 := cell_of g2 0 (v := .slice oa X.length co) rfl
        have f3 := free_of g2 0
        have HP5 := Lib.hid hp5
        rw [show X.length + E.length = (X ++ E).length by simp]
        have hXE : X ++ E = nby ([k, f, t, m, a, b, c, d].take (3 + 1)) := by rw [← HX.out, ← HE.out]; simp [nby]
        generalize X ++ E = XE at HP5 hXE ⊢
        have HXE := Lib.hid hXE
        clear c2 f2 ho5 hk5 hp5 n1 g2 hXE
        go_wp2
        go_roundw
        case rel => exact ⟨4, a5, c5, rfl, by omega, HXE.out ▸ HP5.out⟩
        case measure => simp [intOf]
      · have c1 := cell_of HP.out.1 4 (v := .int .i64 az) rfl
        have HN := Lib.hid (fun u => putNumber_good u a (by have := HLT.out; omega))
        rw [show (a : Int) = az from HZ.out.2.2.2.2.1] at HN
        generalize hX : nby ([k, f, t, m, a, b, c, d].take 4) = X at HP
        have hXl : X.length ≤ 72 := by
          rw [← hX]
          refine Nat.le_trans (nby_len (fun y hy => ?_)) (by simp)
          have h9 := List.mem_of_mem_take hy
          simp only [List.mem_cons, List.not_mem_nil, or_false] at h9
          have := HLT.out
          omega
        have HX := Lib.hid hX
        clear hX
        go_wp2_with (go_at_call 33; refine Stop.mk ?_)
        unfold Stop
        refine (HN.out _).mono ?_
        rintro r w4 ⟨o4, c4, rfl, ho4, hk4⟩
        have hp4 := HP.out.call hk4
        have c2 := cell_of hp4.2.1 0 (v := .slice oa X.length co) rfl
        have f2 := free_of hp4.2.1 0
        have HP4 := Lib.hid hp4
        have HO4 := Lib.hid ho4
        generalize hE : enc a = E at HO4 ⊢
        have hEl : E.length ≤ 9 := by rw [← hE]; exact enc_len (by have := HLT.out; omega)
        have HE := Lib.hid hE
        clear hp4 ho4 hk4 c1 HN hE
        go_wp2_with (at_builtin; refine Stop.mk ?_)
        unfold Stop
        refine wpList_app rfl _ _ 22 rfl (w.heap.size + 3) 5 info5 Tryz.underlying22 rfl (by decide) rfl HP4.out.2.2.2.1 rfl (news := bytes E) (by simp [bytes]) HO4.out.row.news (one_bytes _) (by unfold maxLen; omega) (by omega) HP4.out.2.2.2.2.2 ?_
        intro a5 c5 w5 ho5 hk5
        rw [show X.length + E.length = (X ++ E).length by simp, show bytes X ++ bytes E = bytes (X ++ E) by simp [bytes]] at ho5
        have hp5 := HP4.out.put ho5 hk5
        have n1 : ¬ (some (w.heap.size + 1) = blockOf oa) := fun e => by have := (HP4.out.2.2.2.1.from e.symm).1; omega
        have g2 := hk5.heap HP4.out.2.1 n1
        have c3 := cell_of g2 0 (v := .slice oa X.length co) rfl
        have f3 := free_of g2 0
        have HP5 := Lib.hid hp5
        rw [show X.length + E.length = (X ++ E).length by simp]
        have hXE : X ++ E = nby ([k, f, t, m, a, b, c, d].take (4 + 1)) := by rw [← HX.out, ← HE.out]; simp [nby]
        generalize X ++ E = XE at HP5 hXE ⊢
        have HXE := Lib.hid hXE
        clear c2 f2 ho5 hk5 hp5 n1 g2 hXE
        go_wp2
        go_roundw
        case rel => exact ⟨5, a5, c5, rfl, by omega, HXE.out ▸ HP5.out⟩
        case measure => simp [intOf]
      · have c1 := cell_of HP.out.1 5 (v := .int .i64 bz) rfl
        have HN := Lib.hid (fun u => putNumber_good u b (by have := HLT.out; omega))
        rw [show (b : Int) = bz from HZ.out.2.2.2.2.2.1] at HN
        generalize hX : nby ([k, f, t, m, a, b, c, d].take 5) = X at HP
        have hXl : X.length ≤ 72 := by
          rw [← hX]
          refine Nat.le_trans (nby_len (fun y hy => ?_)) (by simp)
          have h9 := List.mem_of_mem_take hy
          simp only [List.mem_cons, List.not_mem_nil, or_false] at h9
          have := HLT.out
          omega
        have HX := Lib.hid hX
        clear hX
        go_wp2_with (go_at_call 33; refine Stop.mk ?_)
        unfold Stop
        refine (HN.out _).mono ?_
        rintro r w4 ⟨o4, c4, rfl, ho4, hk4⟩
        have hp4 := HP.out.call hk4
        have c2 := cell_of hp4.2.1 0 (v := .slice oa X.length co) rfl
        have f2 := free_of hp4.2.1 0
        have HP4 := Lib.hid hp4
        have HO4 := Lib.hid ho4
        generalize hE : enc b = E at HO4 ⊢
        have hEl : E.length ≤ 9 := by rw [← hE]; exact enc_len (by have := HLT.out; omega)
        have HE := Lib.hid hE
        clear hp4 ho4 hk4 c1 HN hE
        go_wp2_with (at_builtin; refine Stop.mk ?_)
        unfold Stop
        refine wpList_app rfl _ _ 22 rfl (w.heap.size + 3) 5 info5 Tryz.underlying22 rfl (by decide) rfl HP4.out.2.2.2.1 rfl (news := bytes E) (by simp [bytes]) HO4.out.row.news (one_bytes _) (by unfold maxLen; omega) (by omega) HP4.out.2.2.2.2.2 ?_
        intro a5 c5 w5 ho5 hk5
        rw [show X.length + E.length = (X ++ E).length by simp, show bytes X ++ bytes E = bytes (X ++ E) by simp [bytes]] at ho5
        have hp5 := HP4.out.put ho5 hk5
        have n1 : ¬ (some (w.heap.size + 1) = blockOf oa) := fun e => by have := (HP4.out.2.2.2.1.from e.symm).1; omega
        have g2 := hk5.heap HP4.out.2.1 n1
        have c3 := cell_of g2 0 (v := .slice oa X.length co) rfl
        have f3 := free_of g2 0
        have HP5 := Lib.hid hp5
        rw [show X.length + E.length = (X ++ E).length by simp]
        have hXE : X ++ E = nby ([k, f, t, m, a, b, c, d].take (5 + 1)) := by rw [← HX.out, ← HE.out]; simp [nby]
        generalize X ++ E = XE at HP5 hXE ⊢
        have HXE := Lib.hid hXE
        clear c2 f2 ho5 hk5 hp5 n1 g2 hXE
        go_wp2
        go_roundw
        case rel => exact ⟨6, a5, c5, rfl, by omega, HXE.out ▸ HP5.out⟩
        case measure => simp [intOf]
      · have c1 := cell_of HP.out.1 6 (v := .int .i64 cz) rfl
        have HN := Lib.hid (fun u => putNumber_good u c (by have := HLT.out; omega))
        rw [show (c : Int) = cz from HZ.out.2.2.2.2.2.2.1] at HN
        generalize hX : nby ([k, f, t, m, a, b, c, d].take 6) = X at HP
        have hXl : X.length ≤ 72 := by
          rw [← hX]
          refine Nat.le_trans (nby_len (fun y hy => ?_)) (by simp)
          have h9 := List.mem_of_mem_take hy
          simp only [List.mem_cons, List.not_mem_nil, or_false] at h9
          have := HLT.out
          omega
        have HX := Lib.hid hX
        clear hX
        go_wp2_with (go_at_call 33; refine Stop.mk ?_)
        unfold Stop
        refine (HN.out _).mono ?_
        rintro r w4 ⟨o4, c4, rfl, ho4, hk4⟩
        have hp4 := HP.out.call hk4
        have c2 := cell_of hp4.2.1 0 (v := .slice oa X.length co) rfl
        have f2 := free_of hp4.2.1 0
        have HP4 := Lib.hid hp4
        have HO4 := Lib.hid ho4
        generalize hE : enc c = E at HO4 ⊢
        have hEl : E.length ≤ 9 := by rw [← hE]; exact enc_len (by have := HLT.out; omega)
        have HE := Lib.hid hE
        clear hp4 ho4 hk4 c1 HN hE
        go_wp2_with (at_builtin; refine Stop.mk ?_)
        unfold Stop
        refine wpList_app rfl _ _ 22 rfl (w.heap.size + 3) 5 info5 Tryz.underlying22 rfl (by decide) rfl HP4.out.2.2.2.1 rfl (news := bytes E) (by simp [bytes]) HO4.out.row.news (one_bytes _) (by unfold maxLen; omega) (by omega) HP4.out.2.2.2.2.2 ?_
        intro a5 c5 w5 ho5 hk5
        rw [show X.length + E.length = (X ++ E).length by simp, show bytes X ++ bytes E = bytes (X ++ E) by simp [bytes]] at ho5
        have hp5 := HP4.out.put ho5 hk5
        have n1 : ¬ (some (w.heap.size + 1) = blockOf oa) := fun e => by have := (HP4.out.2.2.2.1.from e.symm).1; omega
        have g2 := hk5.heap HP4.out.2.1 n1
        have c3 := cell_of g2 0 (v := .slice oa X.length co) rfl
        have f3 := free_of g2 0
        have HP5 := Lib.hid hp5
        rw [show X.length + E.length = (X ++ E).length by simp]
        have hXE : X ++ E = nby ([k, f, t, m, a, b, c, d].take (6 + 1)) := by rw [← HX.out, ← HE.out]; simp [nby]
        generalize X ++ E = XE at HP5 hXE ⊢
        have HXE := Lib.hid hXE
        clear c2 f2 ho5 hk5 hp5 n1 g2 hXE
        go_wp2
        go_roundw
        case rel => exact ⟨7, a5, c5, rfl, by omega, HXE.out ▸ HP5.out⟩
        case measure => simp [intOf]
      · have c1 := cell_of HP.out.1 7 (v := .int .i64 dz) rfl
        have HN := Lib.hid (fun u => putNumber_good u d (by have := HLT.out; omega))
        rw [show (d : Int) = dz from HZ.out.2.2.2.2.2.2.2] at HN
        generalize hX : nby ([k, f, t, m, a, b, c, d].take 7) = X at HP
        have hXl : X.length ≤ 72 := by
          rw [← hX]
          refine Nat.le_trans (nby_len (fun y hy => ?_)) (by simp)
          have h9 := List.mem_of_mem_take hy
          simp only [List.mem_cons, List.not_mem_nil, or_false] at h9
          have := HLT.out
          omega
        have HX := Lib.hid hX
        clear hX
        go_wp2_with (go_at_call 33; refine Stop.mk ?_)
        unfold Stop
        refine (HN.out _).mono ?_
        rintro r w4 ⟨o4, c4, rfl, ho4, hk4⟩
        have hp4 := HP.out.call hk4
        have c2 := cell_of hp4.2.1 0 (v := .slice oa X.length co) rfl
        have f2 := free_of hp4.2.1 0
        have HP4 := Lib.hid hp4
        have HO4 := Lib.hid ho4
        generalize hE : enc d = E at HO4 ⊢
        have hEl : E.length ≤ 9 := by rw [← hE]; exact enc_len (by have := HLT.out; omega)
        have HE := Lib.hid hE
        clear hp4 ho4 hk4 c1 HN hE
        go_wp2_with (at_builtin; refine Stop.mk ?_)
        unfold Stop
        refine wpList_app rfl _ _ 22 rfl (w.heap.size + 3) 5 info5 Tryz.underlying22 rfl (by decide) rfl HP4.out.2.2.2.1 rfl (news := bytes E) (by simp [bytes]) HO4.out.row.news (one_bytes _) (by unfold maxLen; omega) (by omega) HP4.out.2.2.2.2.2 ?_
        intro a5 c5 w5 ho5 hk5
        rw [show X.length + E.length = (X ++ E).length by simp, show bytes X ++ bytes E = bytes (X ++ E) by simp [bytes]] at ho5
        have hp5 := HP4.out.put ho5 hk5
        have n1 : ¬ (some (w.heap.size + 1) = blockOf oa) := fun e => by have := (HP4.out.2.2.2.1.from e.symm).1; omega
        have g2 := hk5.heap HP4.out.2.1 n1
        have c3 := cell_of g2 0 (v := .slice oa X.length co) rfl
        have f3 := free_of g2 0
        have HP5 := Lib.hid hp5
        rw [show X.length + E.length = (X ++ E).length by simp]
        have hXE : X ++ E = nby ([k, f, t, m, a, b, c, d].take (7 + 1)) := by rw [← HX.out, ← HE.out]; simp [nby]
        generalize X ++ E = XE at HP5 hXE ⊢
        have HXE := Lib.hid hXE
        clear c2 f2 ho5 hk5 hp5 n1 g2 hXE
        go_wp2
        go_roundw
        case rel => exact ⟨8, a5, c5, rfl, by omega, HXE.out ▸ HP5.out⟩
        case measure => simp [intOf]
    · obtain rfl : n = 8 := by omega
      have c8 := cell_of HP.out.1 8 (v := .bool yes) rfl
      generalize hX : nby ([k, f, t, m, a, b, c, d].take 8) = X at HP
      have hXl : X.length ≤ 72 := by
        rw [← hX]
        refine Nat.le_trans (nby_len (fun y hy => ?_)) (by simp)
        have h9 := List.mem_of_mem_take hy
        simp only [List.mem_cons, List.not_mem_nil, or_false] at h9
        have := HLT.out
        omega
      have HX := Lib.hid (show X = nby [k, f, t, m, a, b, c, d] from hX.symm)
      clear hX
      cases yes with
      | false =>
        have hp2 := HP.out.call ((Kp.refl (fun _ => False) wr).alloc (.cells #[.int .u8 0] 5))
        have c8b : (wr.alloc (.cells #[.int .u8 0] 5)).cell? ⟨w.heap.size, 8, none⟩ = some (.bool false) := cell_of (heap_old _ HP.out.1) 8 (v := .bool false) rfl
        have c2 := cell_of hp2.2.1 0 (v := .slice oa X.length co) rfl
        have f2 := free_of hp2.2.1 0
        have HP2 := Lib.hid hp2
        clear hp2
        go_wp2_with (at_builtin; refine Stop.mk ?_)
        unfold Stop
        have hrow : Row (wr.alloc (.cells #[.int .u8 0] 5)) (some ⟨wr.heap.size, 0, none⟩) (bytes [0]) := fun j u hu => ⟨_, _, rfl, cell_of (heap_new wr _) (0 + j) (by rw [Nat.zero_add]; simpa [bytes] using hu)⟩
        have hrow' : Row (wr.alloc (.cells #[.int .u8 0] 5)) (some ⟨wr.heap.size, 0, none⟩) (bytes [0]) := by simpa using hrow
        refine wpList_app rfl _ _ 22 rfl (w.heap.size + 3) 5 info5 Tryz.underlying22 rfl (by decide) rfl HP2.out.2.2.2.1 rfl (news := bytes [0]) (by simp [bytes]) hrow'.news (one_bytes _) (by unfold maxLen; omega) (by omega) HP2.out.2.2.2.2.2 ?_
        intro a5 c5 w5 ho5 hk5
        rw [show X.length + 1 = (X ++ [0]).length by simp, show bytes X ++ bytes [0] = bytes (X ++ [0]) by simp [bytes]] at ho5
        have hp5 := HP2.out.put ho5 hk5
        have n1 : ¬ (some (w.heap.size + 1) = blockOf oa) := fun e => by have := (HP2.out.2.2.2.1.from e.symm).1; omega
        have g2 := hk5.heap HP2.out.2.1 n1
        have c3 := cell_of g2 0 (v := .slice oa X.length co) rfl
        have f3 := free_of g2 0
        have d0 := cell_of hp5.1 0 (v := .int .i64 kz) rfl
        have d1 := cell_of hp5.2.1 0 (v := .slice a5 (X ++ [0]).length c5) rfl
        have d2 := cell_of hp5.2.2.1 0 (v := .int .i64 0) rfl
        have g1 := free_of hp5.2.1 0
        have g3 := free_of hp5.2.2.1 0
        have d9 := cell_of hp5.1 9 (v := .slice oe ne ce) rfl
        have d10 := cell_of hp5.1 10 (v := .slice os ns cs) rfl
        have d11 := cell_of hp5.1 11 (v := .slice od nd cd) rfl
        have HP5 := Lib.hid hp5
        rw [show X.length + 1 = (X ++ [0]).length by simp]
        have hZ : X ++ [0] = nby [k, f, t, m, a, b, c, d] ++ yby false := by rw [← HX.out]; rfl
        have hZl : (X ++ [0]).length ≤ 80 := by rw [List.length_append]; simp; omega
        have HZY := Lib.hid hZ
        have HZL := Lib.hid hZl
        generalize X ++ [0] = Z at HP5 HZY HZL d0 d1 d2 g1 g3 d9 d10 d11 ⊢
        clear c2 f2 ho5 hk5 hp5 n1 g2 hrow hrow' hZ hZl HP2
        by_cases hk3 : kz = 3
        · have HN3 := Lib.hid (fun u => putNumber_good u ne (by have := HOK.out.2.2.1.1; omega))
          have HNE8 := Lib.hid (show ne ≤ 8 from HOK.out.2.2.1.1)
          go_wp2_with (go_at_call 33; refine Stop.mk ?_)
          unfold Stop
          refine (HN3.out _).mono ?_
          rintro r w6 ⟨o6, c6, rfl, ho6, hk6⟩
          have hp6 := HP5.out.call hk6
          have c2 := cell_of hp6.2.1 0 (v := .slice a5 Z.length c5) rfl
          have f2 := free_of hp6.2.1 0
          have HP6 := Lib.hid hp6
          have HO6 := Lib.hid ho6
          generalize hE : enc ne = E at HO6 ⊢
          have hEl : E.length ≤ 9 := by rw [← hE]; exact enc_len (by have := HNE8.out; omega)
          have HE := Lib.hid hE
          clear hp6 ho6 hk6 HN3 hE d0 d1 d2 g1 g3 d9 d10 d11
          go_wp2_with (at_builtin; refine Stop.mk ?_)
          unfold Stop
          refine wpList_app rfl _ _ 22 rfl (w.heap.size + 3) 5 info5 Tryz.underlying22 rfl (by decide) rfl HP6.out.2.2.2.1 rfl (news := bytes E) (by simp [bytes]) HO6.out.row.news (one_bytes _) (by have := HZL.out; unfold maxLen; omega) (by have := HZL.out; omega) HP6.out.2.2.2.2.2 ?_
          intro a7 c7 w7 ho7 hk7
          rw [show Z.length + E.length = (Z ++ E).length by simp, show bytes Z ++ bytes E = bytes (Z ++ E) by simp [bytes]] at ho7
          have hp7 := HP6.out.put ho7 hk7
          have n1 : ¬ (some (w.heap.size + 1) = blockOf a5) := fun e => by have := (HP6.out.2.2.2.1.from e.symm).1; omega
          have g2 := hk7.heap HP6.out.2.1 n1
          have c3' := cell_of g2 0 (v := .slice a5 Z.length c5) rfl
          have f3' := free_of g2 0
          have HP7 := Lib.hid hp7
          have d9 := cell_of hp7.1 9 (v := .slice oe ne ce) rfl
          rw [show Z.length + E.length = (Z ++ E).length by simp]
          have hZEl : (Z ++ E).length ≤ 89 := by rw [List.length_append]; have := HZL.out; omega
          have HZEl := Lib.hid hZEl
          have hZE : Z ++ E = nby [k, f, t, m, a, b, c, d] ++ yby false ++ enc ne := by rw [← HE.out, HZY.out]
          have HZE := Lib.hid hZE
          generalize Z ++ E = ZE at HP7 HZE HZEl d9 ⊢
          clear c2 f2 ho7 hk7 hp7 n1 g2 hZEl hZE
          go_wp2_with fail
          generalize hV7 : w7.setCell ⟨w.heap.size + 1, 0, none⟩ (.slice a7 ZE.length c7) = V7 at HP7 ⊢
          go_loopw [58] (fun i wr => ∃ (n : Nat) (oa : Option Addr) (co : Nat), i = .int .i64 n ∧ n ≤ ne ∧ PI w #[.int .i64 kz, .int .i64 fz, .int .i64 tz, .int .i64 mz, .int .i64 az, .int .i64 bz, .int .i64 cz, .int .i64 dz, .bool false, .slice oe ne ce, .slice os ns cs, .slice od nd cd] (ZE ++ eby (es.take n)) oa co wr) (fun i _ => ne - (intOf i).toNat)
          case atStart => exact ⟨0, a7, c7, rfl, by omega, by simpa [eby] using HP7.out⟩
          case round =>
            obtain ⟨n, ob, cb, rfl, hn, hp⟩ := hrel
            have HPL := Lib.hid hp
            by_cases hlt : n < ne
            · have hne0 : n < es.length := by rw [HNE.out]; exact hlt
              obtain ⟨e, he⟩ : ∃ e, es[n]? = some e := ⟨es[n], List.getElem?_eq_getElem hne0⟩
              have hem : e ∈ es := List.mem_of_getElem? he
              have hke := HKE.out e hem
              have hrow := HES.out.row.old hp.2.2.2.2.1
              have hrd := (HES.out.each e hem).old hp.2.2.2.2.1
              obtain ⟨ge, oge, rfl, h0⟩ := hrow (4 * n + 0) (.int .i64 e.x.term) (by rw [flat4 he 0 (by omega)]; rfl)
              rw [show oge + (4 * n + 0) = oge + n * 4 by omega] at h0
              have h1 : wr.cell? ⟨ge, oge + n * 4 + 1, none⟩ = some (.int .i64 e.x.index) := by
                obtain ⟨_, _, e1, h⟩ := hrow (4 * n + 1) (.int .i64 e.x.index) (by rw [flat4 he 1 (by omega)]; rfl)
                cases e1
                rw [show oge + (4 * n + 1) = oge + n * 4 + 1 by omega] at h
                exact h
              have h2 : wr.cell? ⟨ge, oge + n * 4 + 2, none⟩ = some (.int .i64 e.x.kind) := by
                obtain ⟨_, _, e1, h⟩ := hrow (4 * n + 2) (.int .i64 e.x.kind) (by rw [flat4 he 2 (by omega)]; rfl)
                cases e1
                rw [show oge + (4 * n + 2) = oge + n * 4 + 2 by omega] at h
                exact h
              have h3 : wr.cell? ⟨ge, oge + n * 4 + 3, none⟩ = some (.slice e.a e.x.data.length e.c) := by
                obtain ⟨_, _, e1, h⟩ := hrow (4 * n + 3) (.slice e.a e.x.data.length e.c) (by rw [flat4 he 3 (by omega)]; rfl)
                cases e1
                rw [show oge + (4 * n + 3) = oge + n * 4 + 3 by omega] at h
                exact h
              have hnI : (n : Int) < (ne : Int) := by omega
              have hn0 : (0 : Int) ≤ (n : Int) := by omega
              clear hp hrow hne0
              have hyl : (ZE ++ eby (es.take n)).length ≤ 50000 := by
                rw [List.length_append]
                have q1 := HZEl.out
                have q2 := eby_len (l := es.take n) (fun y hy => (HKE.out y (List.mem_of_mem_take hy)).1)
                have q3 : (es.take n).length ≤ n := by rw [List.length_take]; omega
                have q4 := HNE8.out
                omega
              have hle : (encB (putE e.x)).length ≤ 5009 := by
                have q1 := putE_len hke.1
                have q2 := encB_len (b := putE e.x) (by omega)
                omega
              have hyn : ZE ++ eby (es.take (n + 1)) = (ZE ++ eby (es.take n)) ++ encB (putE e.x) := by
                have : es.take (n + 1) = es.take n ++ [e] := by
                  rw [List.take_add_one, he]
                  rfl
                rw [this, List.append_assoc]
                congr 1
                simp [eby]
              have HPE := Lib.hid (fun (u : World) (hu : Row u e.a (bytes e.x.data)) => putEntry_good hu hke.2.1 hke.2.2 e.c hke.1)
              unfold enV at HPE
              have HRD := Lib.hid hrd
              have HKe := Lib.hid hke
              generalize ZE ++ eby (es.take n) = YL at HPL hyl hyn
              have HYN := Lib.hid hyn
              have HLE := Lib.hid (⟨hyl, hle⟩ : YL.length ≤ 50000 ∧ (encB (putE e.x)).length ≤ 5009)
              clear hyl hle hyn hrd hke hem he
              go_wp2_with (go_at_call 5; refine Stop.mk ?_)
              unfold Stop
              have kA := (Kp.refl (fun _ => False) wr).alloc (.cells #[.int .i64 e.x.term, .int .i64 e.x.index, .int .i64 e.x.kind, .slice e.a e.x.data.length e.c] 24)
              refine (HPE.out _ (HRD.out.no kA)).mono ?_
              rintro r w9 ⟨o9, c9, rfl, ho9, hk9⟩
              have HP9 := Lib.hid ((HPL.out.call kA).call hk9)
              have HO9 := Lib.hid ho9
              clear kA ho9 hk9 h0 h1 h2 h3 HPE
              generalize hPL : (putE e.x).length = pl at HO9 ⊢
              go_wp2_with (go_at_call 30; refine Stop.mk ?_)
              unfold Stop
              refine (demand_yes _ _).mono ?_
              rintro r w9b ⟨rfl, rfl⟩
              go_wp2_with fail
              have HPy := Lib.hid (HP9.out.call ((Kp.refl _ w9b).drew))
              have HMB := Lib.hid (mbytes_any (w := w9b.drew) (HO9.out.row.no ((Kp.refl _ _).drew)) (by have := putE_len HKe.out.1; omega) c9)
              rw [hPL] at HMB
              have HNB := Lib.hid (show ¬ (some (w.heap.size + 1) = blockOf ob) from fun h => by have := (HPL.out.2.2.2.1.from h.symm).1; omega)
              clear hPL
              refine wp_only ?_
              refine wp_region_held_drew (S := fun _ => True) (by kernel_rfl) trivial (fun _ => ?_)
              change wpAnyH _ _ _ _ _ _ _ _ w9b.drew
              generalize w9b.drew = y1 at HPy HMB ⊢
              have cy := cell_of HPy.out.2.1 0 (v := .slice ob YL.length cb) rfl
              refine wpAnyH_take (i := 1) (v := ?_) rfl (by kernel_rfl) (by kernel_rfl) (by kernel_rfl) (fun _ _ _ h => by cases h.1) (Or.inl ⟨by rfl, ?_⟩) trivial ?_
              rotate_left
              · intro w hSw
                go_simp
                try with_reducible rfl
              try simp only [Act.put, List.getElem_toArray, List.getElem_cons_zero, List.getElem_cons_succ, List.setIfInBounds_toArray, List.set_cons_zero, List.set_cons_succ]
              refine wpAnyH_ready (rs := [0, 2]) (by kernel_rfl) (by simp) ?_
              refine AllReadyH.cons rfl (fun K hK => ?_) (AllReadyH.cons rfl (fun K hK => ?_) AllReadyH.nil)
              focus
                go_simp
                refine hK.out _ _ trivial (fun _ => ?_)
                clear hK K
                try simp only [Act.put, List.getElem_toArray, List.getElem_cons_zero, List.getElem_cons_succ, List.setIfInBounds_toArray, List.set_cons_zero, List.set_cons_succ]
                refine wpAnyH_ready (rs := [2]) (by kernel_rfl) (by simp) ?_
                refine AllReadyH.cons rfl (fun K hK => ?_) AllReadyH.nil
                go_simp
                refine (HMB.out).mono ?_
                rintro r w10 ⟨o10, c10, rfl, ho10, hk10⟩
                obtain ⟨ad10, rfl⟩ : ∃ ad, o10 = some ad := by
                  obtain ⟨g1, q1, q2⟩ := ho10.cell (j := 0) (u := ((bytes (encB (putE e.x)))[0]'(by simp [bytes, encB, enc]))) (List.getElem?_eq_getElem _)
                  exact ⟨_, q1⟩
                have HPV10 := Lib.hid (HPy.out.call hk10)
                have HO10 := Lib.hid ho10.row
                clear ho10 hk10
                refine hK.out _ _ trivial (fun _ => ?_)
                clear hK K
                try simp only [Act.put, List.getElem_toArray, List.getElem_cons_zero, List.getElem_cons_succ, List.setIfInBounds_toArray, List.set_cons_zero, List.set_cons_succ]
                refine wpAnyH_ready (rs := [3]) (by kernel_rfl) (by simp) ?_
                refine AllReadyH.cons rfl (fun K hK => ?_) AllReadyH.nil
                rw [if_pos (by rfl)]
                refine oper_app _ _ 22 rfl (w.heap.size + 3) 5 info5 Tryz.underlying22 rfl (by decide) rfl HPV10.out.2.2.2.1 rfl (news := bytes (encB (putE e.x))) (by simp [bytes]) (fun j u hu => by obtain ⟨_, q1, q2⟩ := HO10.out.news j u hu; cases q1; exact q2) (one_bytes _) (by have := HLE.out; unfold maxLen; omega) (by have := HLE.out; omega) HPV10.out.2.2.2.2.2 ?_
                intro a11 c11 w11 ho11 hk11
                refine hK.out _ _ trivial (fun _ => ?_)
                clear hK K
                try simp only [Act.put, List.getElem_toArray, List.getElem_cons_zero, List.getElem_cons_succ, List.setIfInBounds_toArray, List.set_cons_zero, List.set_cons_succ]
                have g11 := hk11.heap HPV10.out.2.1 HNB.out
                have cc11 := cell_of g11 0 (v := .slice ob YL.length cb) rfl
                have ff11 := free_of g11 0
                rw [show bytes YL ++ bytes (encB (putE e.x)) = bytes (YL ++ encB (putE e.x)) by simp [bytes], show YL.length + (encB (putE e.x)).length = (YL ++ encB (putE e.x)).length by simp] at ho11
                rw [show YL.length + (encB (putE e.x)).length = (YL ++ encB (putE e.x)).length by simp]
                have hp12 := HPV10.out.put ho11 hk11
                generalize YL ++ encB (putE e.x) = YN at hp12 HYN ⊢
                have HP12 := Lib.hid hp12
                clear ho11 hk11 g11 hp12
                refine wpAnyH_ready (rs := [4]) (by kernel_rfl) (by simp) ?_
                refine AllReadyH.cons rfl (fun K hK => ?_) AllReadyH.nil
                go_simp
                refine hK.out _ _ trivial (fun _ => ?_)
                clear hK K
                try simp only [Act.put, List.getElem_toArray, List.getElem_cons_zero, List.getElem_cons_succ, List.setIfInBounds_toArray, List.set_cons_zero, List.set_cons_succ]
                refine wpAnyH_done (by kernel_rfl) ⟨rfl, ?_⟩ _
              rotate_left
              focus
                go_simp
                refine (HMB.out).mono ?_
                rintro r w10 ⟨o10, c10, rfl, ho10, hk10⟩
                obtain ⟨ad10, rfl⟩ : ∃ ad, o10 = some ad := by
                  obtain ⟨g1, q1, q2⟩ := ho10.cell (j := 0) (u := ((bytes (encB (putE e.x)))[0]'(by simp [bytes, encB, enc]))) (List.getElem?_eq_getElem _)
                  exact ⟨_, q1⟩
                have HPV10 := Lib.hid (HPy.out.call hk10)
                have HO10 := Lib.hid ho10.row
                clear ho10 hk10
                refine hK.out _ _ trivial (fun _ => ?_)
                clear hK K
                try simp only [Act.put, List.getElem_toArray, List.getElem_cons_zero, List.getElem_cons_succ, List.setIfInBounds_toArray, List.set_cons_zero, List.set_cons_succ]
                have cy2 := cell_of HPV10.out.2.1 0 (v := .slice ob YL.length cb) rfl
                refine wpAnyH_ready (rs := [0]) (by kernel_rfl) (by simp) ?_
                refine AllReadyH.cons rfl (fun K hK => ?_) AllReadyH.nil
                go_simp
                refine hK.out _ _ trivial (fun _ => ?_)
                clear hK K
                try simp only [Act.put, List.getElem_toArray, List.getElem_cons_zero, List.getElem_cons_succ, List.setIfInBounds_toArray, List.set_cons_zero, List.set_cons_succ]
                refine wpAnyH_ready (rs := [3]) (by kernel_rfl) (by simp) ?_
                refine AllReadyH.cons rfl (fun K hK => ?_) AllReadyH.nil
                rw [if_pos (by rfl)]
                refine oper_app _ _ 22 rfl (w.heap.size + 3) 5 info5 Tryz.underlying22 rfl (by decide) rfl HPV10.out.2.2.2.1 rfl (news := bytes (encB (putE e.x))) (by simp [bytes]) (fun j u hu => by obtain ⟨_, q1, q2⟩ := HO10.out.news j u hu; cases q1; exact q2) (one_bytes _) (by have := HLE.out; unfold maxLen; omega) (by have := HLE.out; omega) HPV10.out.2.2.2.2.2 ?_
                intro a11 c11 w11 ho11 hk11
                refine hK.out _ _ trivial (fun _ => ?_)
                clear hK K
                try simp only [Act.put, List.getElem_toArray, List.getElem_cons_zero, List.getElem_cons_succ, List.setIfInBounds_toArray, List.set_cons_zero, List.set_cons_succ]
                have g11 := hk11.heap HPV10.out.2.1 HNB.out
                have cc11 := cell_of g11 0 (v := .slice ob YL.length cb) rfl
                have ff11 := free_of g11 0
                rw [show bytes YL ++ bytes (encB (putE e.x)) = bytes (YL ++ encB (putE e.x)) by simp [bytes], show YL.length + (encB (putE e.x)).length = (YL ++ encB (putE e.x)).length by simp] at ho11
                rw [show YL.length + (encB (putE e.x)).length = (YL ++ encB (putE e.x)).length by simp]
                have hp12 := HPV10.out.put ho11 hk11
                generalize YL ++ encB (putE e.x) = YN at hp12 HYN ⊢
                have HP12 := Lib.hid hp12
                clear ho11 hk11 g11 hp12
                refine wpAnyH_ready (rs := [4]) (by kernel_rfl) (by simp) ?_
                refine AllReadyH.cons rfl (fun K hK => ?_) AllReadyH.nil
                go_simp
                refine hK.out _ _ trivial (fun _ => ?_)
                clear hK K
                try simp only [Act.put, List.getElem_toArray, List.getElem_cons_zero, List.getElem_cons_succ, List.setIfInBounds_toArray, List.set_cons_zero, List.set_cons_succ]
                refine wpAnyH_done (by kernel_rfl) ⟨rfl, ?_⟩ _
              all_goals
                go_wp2_with fail
                exact ⟨⟨n + 1, a11, c11, rfl, hlt, by rw [HYN.out]; exact HP12.out⟩, meas1 hlt⟩
            · obtain rfl : n = ne := by omega
              have hmz : mby k f t m a b c d false (es.map Ep.x) bs dd = ZE ++ eby (es.take n) := by
                have e3 : k = 3 := by have := HZ.out.1; omega
                have e4 : es.take n = es := List.take_of_length_le (by rw [HNE.out]; omega)
                rw [HZE.out, mby, if_pos e3, e4, List.length_map, HNE.out, List.append_assoc, List.append_assoc]
                congr 3
                simp [eby, List.flatMap_map]
              have HMZ := Lib.hid hmz
              generalize ZE ++ eby (es.take n) = YL at hp hmz HPL HMZ
              obtain ⟨z1, z2, z3⟩ := hp.fin
              have HZ3 := Lib.hid z3
              have dd1 := cell_of hp.2.1 0 (v := .slice ob YL.length cb) rfl
              have dd2 := cell_of hp.2.2.1 0 (v := .int .i64 0) rfl
              have gg1 := free_of hp.2.1 0
              have gg3 := free_of hp.2.2.1 0
              clear hp z3 hmz
              go_wp2_with fail
              refine leaves_cons (f := 32) (args := #[.pointer (some ⟨w.heap.size + 1, 0, none⟩), .pointer (some ⟨w.heap.size + 1 + 1, 0, none⟩)]) (by simp) (by simp [go_sem]) ?_
              refine (caught32_idle _ _ _).mono ?_
              rintro e u' w11 ⟨rfl, rfl, rfl⟩
              rw [HMZ.out]
              exact ⟨.tuple #[.slice ob YL.length cb, .int .i64 0], by simp [results, Tryz.results10, go_sem, z1, z2], HZ3.out⟩
        · by_cases hk5 : kz = 5
          · have hsv : srv xs = some bs := HKS.out (by have := HZ.out.1; omega)
            have HS8 := Lib.hid (fun (u : World) (hu : Kp (fun j => w.heap.size ≤ j) w u) => putServers_any (HXS.out.old hu) cs)
            rw [HNS.out] at HS8
            go_wp2_with (go_at_call 8; refine Stop.mk ?_)
            unfold Stop
            refine (HS8.out _ HP5.out.2.2.2.2.1).mono ?_
            rintro r w8 ⟨hk8, hx8⟩
            rw [hsv] at hx8
            obtain ⟨b', o8, c8', hb', rfl, ho8⟩ : ∃ (b' : List Int) (o8 : Option Addr) (c8' : Nat), some bs = some b' ∧ r = .returned (.tuple #[.slice o8 b'.length c8', .int .i64 0]) ∧ Row w8 o8 (bytes b') := by
              rcases hx8 with ⟨h, _⟩ | ⟨b', o8, c8', h1, h2, h3⟩
              · cases h
              · exact ⟨b', o8, c8', h1, h2, h3.row⟩
            cases hb'
            have HP8 := Lib.hid (HP5.out.call hk8)
            have HO8 := Lib.hid ho8
            have hbl := srv_len hsv
            have HBL := Lib.hid hbl
            clear hk8 hx8 ho8 HS8 hbl
            go_wp2_with (go_at_call 30; refine Stop.mk ?_)
            unfold Stop
            refine (demand_yes _ _).mono ?_
            rintro r w8b ⟨rfl, rfl⟩
            go_wp2_with fail
            have HPy0 := Lib.hid (HP8.out.call ((Kp.refl _ w8b).drew))
            have hB0 := HPy0.out.1
            refine wp_only ?_
            refine wp_region_held_drew (S := fun w' => w'.heap[w.heap.size]? = some (.cells #[.int .i64 kz, .int .i64 fz, .int .i64 tz, .int .i64 mz, .int .i64 az, .int .i64 bz, .int .i64 cz, .int .i64 dz, .bool false, .slice oe ne ce, .slice os ns cs, .slice od nd cd] 37 (0, 0))) (by kernel_rfl) hB0 (fun hHeld => ?_)
            clear hB0
            have HBB := Lib.hid (mbytes_any (w := w8b.drew) (HO8.out.no ((Kp.refl _ _).drew)) (by have := HBL.out; omega) c8')
            have HDDy := Lib.hid (HDD.out.old HPy0.out.2.2.2.2.1)
            have hlen : bs.length ≤ 80 ∧ dd.length ≤ 1048576 ∧ (encB bs).length ≤ 89 ∧ (encB dd).length ≤ 1048585 := by
              have q1 := HBL.out
              have q2 := HND6.out
              have q3 := HND.out
              have q4 := encB_len (b := bs) (by omega)
              have q5 := encB_len (b := dd) (by omega)
              omega
            have HLEN := Lib.hid hlen
            clear hlen
            generalize w8b.drew = y0 at hHeld HPy0 HBB HDDy ⊢
            refine wpAnyH_take (i := 1) (v := ?_) rfl (by kernel_rfl) (by kernel_rfl) (by kernel_rfl) (fun _ _ _ h => by cases h.1) (Or.inl ⟨by rfl, ?_⟩) (by assumption) ?_
            rotate_left
            · intro w hSw
              go_simp
              try with_reducible rfl
            try simp only [Act.put, List.getElem_toArray, List.getElem_cons_zero, List.getElem_cons_succ, List.setIfInBounds_toArray, List.set_cons_zero, List.set_cons_succ]
            refine wpAnyH_take (i := 3) (v := ?_) rfl (by kernel_rfl) (by kernel_rfl) (by kernel_rfl) (fun _ _ _ h => by cases h.1) (Or.inl ⟨by rfl, ?_⟩) (by assumption) ?_
            rotate_left
            · intro w hSw
              go_simp
              try with_reducible rfl
            try simp only [Act.put, List.getElem_toArray, List.getElem_cons_zero, List.getElem_cons_succ, List.setIfInBounds_toArray, List.set_cons_zero, List.set_cons_succ]
            refine wpAnyH_take (i := 4) (v := .slice od nd cd) rfl (by kernel_rfl) (by kernel_rfl) (by kernel_rfl) (fun _ _ _ h => by cases h.1) (Or.inl ⟨by rfl, ?_⟩) (by assumption) ?_
            · intro w hSw
              have hc := cell_of hSw 11 (v := .slice od nd cd) rfl
              go_simp
              try with_reducible rfl
            try simp only [Act.put, List.getElem_toArray, List.getElem_cons_zero, List.getElem_cons_succ, List.setIfInBounds_toArray, List.set_cons_zero, List.set_cons_succ]
            refine wpAnyH_ready (rs := [0, 2]) (by kernel_rfl) (by simp) ?_
            refine AllReadyH.cons rfl (fun K hK => ?_) (AllReadyH.cons rfl (fun K hK => ?_) (AllReadyH.nil))
            focus
              have dd1 := cell_of HPy0.out.2.1 0 (v := .slice a5 Z.length c5) rfl
              go_simp
              refine hK.out _ _ (by assumption) (fun hHeld => ?_)
              clear hK K
              try simp only [Act.put, List.getElem_toArray, List.getElem_cons_zero, List.getElem_cons_succ, List.setIfInBounds_toArray, List.set_cons_zero, List.set_cons_succ]
              refine wpAnyH_ready (rs := [2]) (by kernel_rfl) (by simp) ?_
              refine AllReadyH.cons rfl (fun K hK => ?_) (AllReadyH.nil)
              go_simp
              refine (HBB.out).mono ?_
              rintro r w6 ⟨o6, c6, rfl, ho6, hk6⟩
              have HPw6 := Lib.hid (HPy0.out.call hk6)
              have HO6 := Lib.hid ho6.row
              have HD6 := Lib.hid (mbytes_any ((HDDy.out.no hk6)) (by rw [HND.out]; have := HND6.out; omega) cd)
              rw [HND.out] at HD6
              have hH6 := hk6.heap hHeld (fun h => h)
              clear ho6 hk6 hHeld
              refine hK.out _ _ hH6 (fun hHeld => ?_)
              clear hK K
              try simp only [Act.put, List.getElem_toArray, List.getElem_cons_zero, List.getElem_cons_succ, List.setIfInBounds_toArray, List.set_cons_zero, List.set_cons_succ]
              refine wpAnyH_ready (rs := [5]) (by kernel_rfl) (by simp) ?_
              refine AllReadyH.cons rfl (fun K hK => ?_) (AllReadyH.nil)
              go_simp
              refine (HD6.out).mono ?_
              rintro r w7 ⟨o7, c7, rfl, ho7, hk7⟩
              have HPw7 := Lib.hid (HPw6.out.call hk7)
              have HO67 := Lib.hid (HO6.out.no hk7)
              have HO7 := Lib.hid ho7.row
              have hH7 := hk7.heap hHeld (fun h => h)
              clear ho7 hk7 hHeld
              refine hK.out _ _ hH7 (fun hHeld => ?_)
              clear hK K
              try simp only [Act.put, List.getElem_toArray, List.getElem_cons_zero, List.getElem_cons_succ, List.setIfInBounds_toArray, List.set_cons_zero, List.set_cons_succ]
              refine wpAnyH_ready (rs := [6]) (by kernel_rfl) (by simp) ?_
              refine AllReadyH.cons rfl (fun K hK => ?_) (AllReadyH.nil)
              go_simp
              refine hK.out _ _ (heap_old _ hHeld) (fun hHeld => ?_)
              clear hK K
              try simp only [Act.put, List.getElem_toArray, List.getElem_cons_zero, List.getElem_cons_succ, List.setIfInBounds_toArray, List.set_cons_zero, List.set_cons_succ]
              refine wpAnyH_ready (rs := [7]) (by kernel_rfl) (by simp) ?_
              refine AllReadyH.cons rfl (fun K hK => ?_) (AllReadyH.nil)
              go_simp
              refine (join3 c5 c6 c7 HPw7.out.2.2.2.1.row HO67.out HO7.out (by have := HZL.out; have := HLEN.out; omega)).mono ?_
              rintro r w9 ⟨o9, c9, rfl, ho9, hk9⟩
              generalize hJJ : Z ++ (encB bs ++ encB dd) = JJ at ho9 ⊢
              have HJJ := Lib.hid hJJ
              clear hJJ
              have HPw9 := Lib.hid ((HPw7.out.call ((Kp.refl _ _).alloc _)).call hk9)
              have hO9 : Owns w9 (w.heap.size + 3) 5 1 o9 JJ.length c9 (bytes JJ) := ho9.low (by have := HPw7.out.2.2.2.2.2; simp; omega)
              have HO9 := Lib.hid hO9
              have hH9 := hk9.heap hHeld (fun h => h)
              have e1 := cell_of HPw9.out.2.1 0 (v := .slice a5 Z.length c5) rfl
              have e2 := free_of HPw9.out.2.1 0
              clear ho9 hk9 hO9 hHeld
              refine hK.out _ _ hH9 (fun hHeld => ?_)
              clear hK K
              try simp only [Act.put, List.getElem_toArray, List.getElem_cons_zero, List.getElem_cons_succ, List.setIfInBounds_toArray, List.set_cons_zero, List.set_cons_succ]
              refine wpAnyH_ready (rs := [8]) (by kernel_rfl) (by simp) ?_
              refine AllReadyH.cons rfl (fun K hK => ?_) (AllReadyH.nil)
              go_simp
              refine hK.out _ _ (heap_set_other ⟨w.heap.size + 1, 0, none⟩ _ hHeld (by simp)) (fun hHeld => ?_)
              clear hK K
              try simp only [Act.put, List.getElem_toArray, List.getElem_cons_zero, List.getElem_cons_succ, List.setIfInBounds_toArray, List.set_cons_zero, List.set_cons_succ]
              refine wpAnyH_done (by kernel_rfl) ⟨rfl, ?_⟩ _
            rotate_left
            focus
              go_simp
              refine (HBB.out).mono ?_
              rintro r w6 ⟨o6, c6, rfl, ho6, hk6⟩
              have HPw6 := Lib.hid (HPy0.out.call hk6)
              have HO6 := Lib.hid ho6.row
              have HD6 := Lib.hid (mbytes_any ((HDDy.out.no hk6)) (by rw [HND.out]; have := HND6.out; omega) cd)
              rw [HND.out] at HD6
              have hH6 := hk6.heap hHeld (fun h => h)
              clear ho6 hk6 hHeld
              refine hK.out _ _ hH6 (fun hHeld => ?_)
              clear hK K
              try simp only [Act.put, List.getElem_toArray, List.getElem_cons_zero, List.getElem_cons_succ, List.setIfInBounds_toArray, List.set_cons_zero, List.set_cons_succ]
              refine wpAnyH_ready (rs := [0, 5]) (by kernel_rfl) (by simp) ?_
              refine AllReadyH.cons rfl (fun K hK => ?_) (AllReadyH.cons rfl (fun K hK => ?_) (AllReadyH.nil))
              focus
                have dd1 := cell_of HPw6.out.2.1 0 (v := .slice a5 Z.length c5) rfl
                go_simp
                refine hK.out _ _ (by assumption) (fun hHeld => ?_)
                clear hK K
                try simp only [Act.put, List.getElem_toArray, List.getElem_cons_zero, List.getElem_cons_succ, List.setIfInBounds_toArray, List.set_cons_zero, List.set_cons_succ]
                refine wpAnyH_ready (rs := [5]) (by kernel_rfl) (by simp) ?_
                refine AllReadyH.cons rfl (fun K hK => ?_) (AllReadyH.nil)
                go_simp
                refine (HD6.out).mono ?_
                rintro r w7 ⟨o7, c7, rfl, ho7, hk7⟩
                have HPw7 := Lib.hid (HPw6.out.call hk7)
                have HO67 := Lib.hid (HO6.out.no hk7)
                have HO7 := Lib.hid ho7.row
                have hH7 := hk7.heap hHeld (fun h => h)
                clear ho7 hk7 hHeld
                refine hK.out _ _ hH7 (fun hHeld => ?_)
                clear hK K
                try simp only [Act.put, List.getElem_toArray, List.getElem_cons_zero, List.getElem_cons_succ, List.setIfInBounds_toArray, List.set_cons_zero, List.set_cons_succ]
                refine wpAnyH_ready (rs := [6]) (by kernel_rfl) (by simp) ?_
                refine AllReadyH.cons rfl (fun K hK => ?_) (AllReadyH.nil)
                go_simp
                refine hK.out _ _ (heap_old _ hHeld) (fun hHeld => ?_)
                clear hK K
                try simp only [Act.put, List.getElem_toArray, List.getElem_cons_zero, List.getElem_cons_succ, List.setIfInBounds_toArray, List.set_cons_zero, List.set_cons_succ]
                refine wpAnyH_ready (rs := [7]) (by kernel_rfl) (by simp) ?_
                refine AllReadyH.cons rfl (fun K hK => ?_) (AllReadyH.nil)
                go_simp
                refine (join3 c5 c6 c7 HPw7.out.2.2.2.1.row HO67.out HO7.out (by have := HZL.out; have := HLEN.out; omega)).mono ?_
                rintro r w9 ⟨o9, c9, rfl, ho9, hk9⟩
                generalize hJJ : Z ++ (encB bs ++ encB dd) = JJ at ho9 ⊢
                have HJJ := Lib.hid hJJ
                clear hJJ
                have HPw9 := Lib.hid ((HPw7.out.call ((Kp.refl _ _).alloc _)).call hk9)
                have hO9 : Owns w9 (w.heap.size + 3) 5 1 o9 JJ.length c9 (bytes JJ) := ho9.low (by have := HPw7.out.2.2.2.2.2; simp; omega)
                have HO9 := Lib.hid hO9
                have hH9 := hk9.heap hHeld (fun h => h)
                have e1 := cell_of HPw9.out.2.1 0 (v := .slice a5 Z.length c5) rfl
                have e2 := free_of HPw9.out.2.1 0
                clear ho9 hk9 hO9 hHeld
                refine hK.out _ _ hH9 (fun hHeld => ?_)
                clear hK K
                try simp only [Act.put, List.getElem_toArray, List.getElem_cons_zero, List.getElem_cons_succ, List.setIfInBounds_toArray, List.set_cons_zero, List.set_cons_succ]
                refine wpAnyH_ready (rs := [8]) (by kernel_rfl) (by simp) ?_
                refine AllReadyH.cons rfl (fun K hK => ?_) (AllReadyH.nil)
                go_simp
                refine hK.out _ _ (heap_set_other ⟨w.heap.size + 1, 0, none⟩ _ hHeld (by simp)) (fun hHeld => ?_)
                clear hK K
                try simp only [Act.put, List.getElem_toArray, List.getElem_cons_zero, List.getElem_cons_succ, List.setIfInBounds_toArray, List.set_cons_zero, List.set_cons_succ]
                refine wpAnyH_done (by kernel_rfl) ⟨rfl, ?_⟩ _
              rotate_left
              focus
                go_simp
                refine (HD6.out).mono ?_
                rintro r w7 ⟨o7, c7, rfl, ho7, hk7⟩
                have HPw7 := Lib.hid (HPw6.out.call hk7)
                have HO67 := Lib.hid (HO6.out.no hk7)
                have HO7 := Lib.hid ho7.row
                have hH7 := hk7.heap hHeld (fun h => h)
                clear ho7 hk7 hHeld
                refine hK.out _ _ hH7 (fun hHeld => ?_)
                clear hK K
                try simp only [Act.put, List.getElem_toArray, List.getElem_cons_zero, List.getElem_cons_succ, List.setIfInBounds_toArray, List.set_cons_zero, List.set_cons_succ]
                refine wpAnyH_ready (rs := [0]) (by kernel_rfl) (by simp) ?_
                refine AllReadyH.cons rfl (fun K hK => ?_) (AllReadyH.nil)
                have dd1 := cell_of HPw7.out.2.1 0 (v := .slice a5 Z.length c5) rfl
                go_simp
                refine hK.out _ _ (by assumption) (fun hHeld => ?_)
                clear hK K
                try simp only [Act.put, List.getElem_toArray, List.getElem_cons_zero, List.getElem_cons_succ, List.setIfInBounds_toArray, List.set_cons_zero, List.set_cons_succ]
                refine wpAnyH_ready (rs := [6]) (by kernel_rfl) (by simp) ?_
                refine AllReadyH.cons rfl (fun K hK => ?_) (AllReadyH.nil)
                go_simp
                refine hK.out _ _ (heap_old _ hHeld) (fun hHeld => ?_)
                clear hK K
                try simp only [Act.put, List.getElem_toArray, List.getElem_cons_zero, List.getElem_cons_succ, List.setIfInBounds_toArray, List.set_cons_zero, List.set_cons_succ]
                refine wpAnyH_ready (rs := [7]) (by kernel_rfl) (by simp) ?_
                refine AllReadyH.cons rfl (fun K hK => ?_) (AllReadyH.nil)
                go_simp
                refine (join3 c5 c6 c7 HPw7.out.2.2.2.1.row HO67.out HO7.out (by have := HZL.out; have := HLEN.out; omega)).mono ?_
                rintro r w9 ⟨o9, c9, rfl, ho9, hk9⟩
                generalize hJJ : Z ++ (encB bs ++ encB dd) = JJ at ho9 ⊢
                have HJJ := Lib.hid hJJ
                clear hJJ
                have HPw9 := Lib.hid ((HPw7.out.call ((Kp.refl _ _).alloc _)).call hk9)
                have hO9 : Owns w9 (w.heap.size + 3) 5 1 o9 JJ.length c9 (bytes JJ) := ho9.low (by have := HPw7.out.2.2.2.2.2; simp; omega)
                have HO9 := Lib.hid hO9
                have hH9 := hk9.heap hHeld (fun h => h)
                have e1 := cell_of HPw9.out.2.1 0 (v := .slice a5 Z.length c5) rfl
                have e2 := free_of HPw9.out.2.1 0
                clear ho9 hk9 hO9 hHeld
                refine hK.out _ _ hH9 (fun hHeld => ?_)
                clear hK K
                try simp only [Act.put, List.getElem_toArray, List.getElem_cons_zero, List.getElem_cons_succ, List.setIfInBounds_toArray, List.set_cons_zero, List.set_cons_succ]
                refine wpAnyH_ready (rs := [8]) (by kernel_rfl) (by simp) ?_
                refine AllReadyH.cons rfl (fun K hK => ?_) (AllReadyH.nil)
                go_simp
                refine hK.out _ _ (heap_set_other ⟨w.heap.size + 1, 0, none⟩ _ hHeld (by simp)) (fun hHeld => ?_)
                clear hK K
                try simp only [Act.put, List.getElem_toArray, List.getElem_cons_zero, List.getElem_cons_succ, List.setIfInBounds_toArray, List.set_cons_zero, List.set_cons_succ]
                refine wpAnyH_done (by kernel_rfl) ⟨rfl, ?_⟩ _
            all_goals
              have hp10 := HPw9.out.set HO9.out
              obtain ⟨z1, z2, z3⟩ := hp10.fin
              have HZ3 := Lib.hid z3
              have dd1 := cell_of hp10.2.1 0 (v := .slice o9 JJ.length c9) rfl
              have dd2 := cell_of hp10.2.2.1 0 (v := .int .i64 0) rfl
              have gg1 := free_of hp10.2.1 0
              have gg3 := free_of hp10.2.2.1 0
              clear hp10 z3 e1 e2
              go_wp2_with fail
              refine leaves_cons (f := 32) (args := #[.pointer (some ⟨w.heap.size + 1, 0, none⟩), .pointer (some ⟨w.heap.size + 1 + 1, 0, none⟩)]) (by simp) (by simp [go_sem]) ?_
              refine (caught32_idle _ _ _).mono ?_
              rintro e u' w11 ⟨rfl, rfl, rfl⟩
              have hmz : mby k f t m a b c d false (es.map Ep.x) bs dd = JJ := by
                have e5 : k = 5 := by have := HZ.out.1; omega
                have e3 : ¬ k = 3 := by omega
                rw [← HJJ.out, HZY.out, mby, if_neg e3, if_pos e5, List.append_assoc]
              rw [hmz]
              exact ⟨.tuple #[.slice o9 JJ.length c9, .int .i64 0], by simp [results, Tryz.results10, go_sem, z1, z2], HZ3.out⟩
          · go_wp2_with fail
            refine leaves_cons (f := 32) (args := #[.pointer (some ⟨w.heap.size + 1, 0, none⟩), .pointer (some ⟨w.heap.size + 1 + 1, 0, none⟩)]) (by simp) (by simp [go_sem]) ?_
            refine (caught32_idle _ _ _).mono ?_
            rintro e u' w9 ⟨rfl, rfl, rfl⟩
            obtain ⟨z1, z2, z3⟩ := HP5.out.fin
            have hmz : mby k f t m a b c d false (es.map Ep.x) bs dd = Z := by
              have e3 : ¬ k = 3 := fun e => hk3 (by rw [← HZ.out.1, e]; rfl)
              have e5 : ¬ k = 5 := fun e => hk5 (by rw [← HZ.out.1, e]; rfl)
              rw [HZY.out, mby, if_neg e3, if_neg e5, List.append_nil]
            rw [hmz]
            exact ⟨.tuple #[.slice a5 Z.length c5, .int .i64 0], by simp [results, Tryz.results10, go_sem, z1, z2], z3⟩
      | true =>
        have hp2 := HP.out.call (((Kp.refl (fun _ => False) wr).alloc (.cells #[.int .u8 0] 5)).alloc (.cells #[.int .u8 1, .int .u8 1] 5))
        have c8b : (wr.alloc (.cells #[.int .u8 0] 5)).cell? ⟨w.heap.size, 8, none⟩ = some (.bool true) := cell_of (heap_old _ HP.out.1) 8 (v := .bool true) rfl
        have c2 := cell_of hp2.2.1 0 (v := .slice oa X.length co) rfl
        have f2 := free_of hp2.2.1 0
        have HP2 := Lib.hid hp2
        clear hp2
        go_wp2_with (at_builtin; refine Stop.mk ?_)
        unfold Stop
        have hrow : Row ((wr.alloc (.cells #[.int .u8 0] 5)).alloc (.cells #[.int .u8 1, .int .u8 1] 5)) (some ⟨(wr.alloc (.cells #[.int .u8 0] 5)).heap.size, 0, none⟩) (bytes [1, 1]) := fun j u hu => ⟨_, _, rfl, cell_of (heap_new (wr.alloc (.cells #[.int .u8 0] 5)) _) (0 + j) (by rw [Nat.zero_add]; simpa [bytes] using hu)⟩
        have hrow' : Row ((wr.alloc (.cells #[.int .u8 0] 5)).alloc (.cells #[.int .u8 1, .int .u8 1] 5)) (some ⟨wr.heap.size + 1, 0, none⟩) (bytes [1, 1]) := by simpa using hrow
        refine wpList_app rfl _ _ 22 rfl (w.heap.size + 3) 5 info5 Tryz.underlying22 rfl (by decide) rfl HP2.out.2.2.2.1 rfl (news := bytes [1, 1]) (by simp [bytes]) hrow'.news (one_bytes _) (by unfold maxLen; omega) (by omega) HP2.out.2.2.2.2.2 ?_
        intro a5 c5 w5 ho5 hk5
        rw [show X.length + 2 = (X ++ [1, 1]).length by simp, show bytes X ++ bytes [1, 1] = bytes (X ++ [1, 1]) by simp [bytes]] at ho5
        have hp5 := HP2.out.put ho5 hk5
        have n1 : ¬ (some (w.heap.size + 1) = blockOf oa) := fun e => by have := (HP2.out.2.2.2.1.from e.symm).1; omega
        have g2 := hk5.heap HP2.out.2.1 n1
        have c3 := cell_of g2 0 (v := .slice oa X.length co) rfl
        have f3 := free_of g2 0
        have d0 := cell_of hp5.1 0 (v := .int .i64 kz) rfl
        have d1 := cell_of hp5.2.1 0 (v := .slice a5 (X ++ [1, 1]).length c5) rfl
        have d2 := cell_of hp5.2.2.1 0 (v := .int .i64 0) rfl
        have g1 := free_of hp5.2.1 0
        have g3 := free_of hp5.2.2.1 0
        have d9 := cell_of hp5.1 9 (v := .slice oe ne ce) rfl
        have d10 := cell_of hp5.1 10 (v := .slice os ns cs) rfl
        have d11 := cell_of hp5.1 11 (v := .slice od nd cd) rfl
        have HP5 := Lib.hid hp5
        rw [show X.length + 2 = (X ++ [1, 1]).length by simp]
        have hZ : X ++ [1, 1] = nby [k, f, t, m, a, b, c, d] ++ yby true := by rw [← HX.out]; rfl
        have hZl : (X ++ [1, 1]).length ≤ 80 := by rw [List.length_append]; simp; omega
        have HZY := Lib.hid hZ
        have HZL := Lib.hid hZl
        generalize X ++ [1, 1] = Z at HP5 HZY HZL d0 d1 d2 g1 g3 d9 d10 d11 ⊢
        clear c2 f2 ho5 hk5 hp5 n1 g2 hrow hrow' hZ hZl HP2
        by_cases hk3 : kz = 3
        · have HN3 := Lib.hid (fun u => putNumber_good u ne (by have := HOK.out.2.2.1.1; omega))
          have HNE8 := Lib.hid (show ne ≤ 8 from HOK.out.2.2.1.1)
          go_wp2_with (go_at_call 33; refine Stop.mk ?_)
          unfold Stop
          refine (HN3.out _).mono ?_
          rintro r w6 ⟨o6, c6, rfl, ho6, hk6⟩
          have hp6 := HP5.out.call hk6
          have c2 := cell_of hp6.2.1 0 (v := .slice a5 Z.length c5) rfl
          have f2 := free_of hp6.2.1 0
          have HP6 := Lib.hid hp6
          have HO6 := Lib.hid ho6
          generalize hE : enc ne = E at HO6 ⊢
          have hEl : E.length ≤ 9 := by rw [← hE]; exact enc_len (by have := HNE8.out; omega)
          have HE := Lib.hid hE
          clear hp6 ho6 hk6 HN3 hE d0 d1 d2 g1 g3 d9 d10 d11
          go_wp2_with (at_builtin; refine Stop.mk ?_)
          unfold Stop
          refine wpList_app rfl _ _ 22 rfl (w.heap.size + 3) 5 info5 Tryz.underlying22 rfl (by decide) rfl HP6.out.2.2.2.1 rfl (news := bytes E) (by simp [bytes]) HO6.out.row.news (one_bytes _) (by have := HZL.out; unfold maxLen; omega) (by have := HZL.out; omega) HP6.out.2.2.2.2.2 ?_
          intro a7 c7 w7 ho7 hk7
          rw [show Z.length + E.length = (Z ++ E).length by simp, show bytes Z ++ bytes E = bytes (Z ++ E) by simp [bytes]] at ho7
          have hp7 := HP6.out.put ho7 hk7
          have n1 : ¬ (some (w.heap.size + 1) = blockOf a5) := fun e => by have := (HP6.out.2.2.2.1.from e.symm).1; omega
          have g2 := hk7.heap HP6.out.2.1 n1
          have c3' := cell_of g2 0 (v := .slice a5 Z.length c5) rfl
          have f3' := free_of g2 0
          have HP7 := Lib.hid hp7
          have d9 := cell_of hp7.1 9 (v := .slice oe ne ce) rfl
          rw [show Z.length + E.length = (Z ++ E).length by simp]
          have hZEl : (Z ++ E).length ≤ 89 := by rw [List.length_append]; have := HZL.out; omega
          have HZEl := Lib.hid hZEl
          have hZE : Z ++ E = nby [k, f, t, m, a, b, c, d] ++ yby true ++ enc ne := by rw [← HE.out, HZY.out]
          have HZE := Lib.hid hZE
          generalize Z ++ E = ZE at HP7 HZE HZEl d9 ⊢
          clear c2 f2 ho7 hk7 hp7 n1 g2 hZEl hZE
          go_wp2_with fail
          generalize hV7 : w7.setCell ⟨w.heap.size + 1, 0, none⟩ (.slice a7 ZE.length c7) = V7 at HP7 ⊢
          go_loopw [58] (fun i wr => ∃ (n : Nat) (oa : Option Addr) (co : Nat), i = .int .i64 n ∧ n ≤ ne ∧ PI w #[.int .i64 kz, .int .i64 fz, .int .i64 tz, .int .i64 mz, .int .i64 az, .int .i64 bz, .int .i64 cz, .int .i64 dz, .bool true, .slice oe ne ce, .slice os ns cs, .slice od nd cd] (ZE ++ eby (es.take n)) oa co wr) (fun i _ => ne - (intOf i).toNat)
          case atStart => exact ⟨0, a7, c7, rfl, by omega, by simpa [eby] using HP7.out⟩
          case round =>
            obtain ⟨n, ob, cb, rfl, hn, hp⟩ := hrel
            have HPL := Lib.hid hp
            by_cases hlt : n < ne
            · have hne0 : n < es.length := by rw [HNE.out]; exact hlt
              obtain ⟨e, he⟩ : ∃ e, es[n]? = some e := ⟨es[n], List.getElem?_eq_getElem hne0⟩
              have hem : e ∈ es := List.mem_of_getElem? he
              have hke := HKE.out e hem
              have hrow := HES.out.row.old hp.2.2.2.2.1
              have hrd := (HES.out.each e hem).old hp.2.2.2.2.1
              obtain ⟨ge, oge, rfl, h0⟩ := hrow (4 * n + 0) (.int .i64 e.x.term) (by rw [flat4 he 0 (by omega)]; rfl)
              rw [show oge + (4 * n + 0) = oge + n * 4 by omega] at h0
              have h1 : wr.cell? ⟨ge, oge + n * 4 + 1, none⟩ = some (.int .i64 e.x.index) := by
                obtain ⟨_, _, e1, h⟩ := hrow (4 * n + 1) (.int .i64 e.x.index) (by rw [flat4 he 1 (by omega)]; rfl)
                cases e1
                rw [show oge + (4 * n + 1) = oge + n * 4 + 1 by omega] at h
                exact h
              have h2 : wr.cell? ⟨ge, oge + n * 4 + 2, none⟩ = some (.int .i64 e.x.kind) := by
                obtain ⟨_, _, e1, h⟩ := hrow (4 * n + 2) (.int .i64 e.x.kind) (by rw [flat4 he 2 (by omega)]; rfl)
                cases e1
                rw [show oge + (4 * n + 2) = oge + n * 4 + 2 by omega] at h
                exact h
              have h3 : wr.cell? ⟨ge, oge + n * 4 + 3, none⟩ = some (.slice e.a e.x.data.length e.c) := by
                obtain ⟨_, _, e1, h⟩ := hrow (4 * n + 3) (.slice e.a e.x.data.length e.c) (by rw [flat4 he 3 (by omega)]; rfl)
                cases e1
                rw [show oge + (4 * n + 3) = oge + n * 4 + 3 by omega] at h
                exact h
              have hnI : (n : Int) < (ne : Int) := by omega
              have hn0 : (0 : Int) ≤ (n : Int) := by omega
              clear hp hrow hne0
              have hyl : (ZE ++ eby (es.take n)).length ≤ 50000 := by
                rw [List.length_append]
                have q1 := HZEl.out
                have q2 := eby_len (l := es.take n) (fun y hy => (HKE.out y (List.mem_of_mem_take hy)).1)
                have q3 : (es.take n).length ≤ n := by rw [List.length_take]; omega
                have q4 := HNE8.out
                omega
              have hle : (encB (putE e.x)).length ≤ 5009 := by
                have q1 := putE_len hke.1
                have q2 := encB_len (b := putE e.x) (by omega)
                omega
              have hyn : ZE ++ eby (es.take (n + 1)) = (ZE ++ eby (es.take n)) ++ encB (putE e.x) := by
                have : es.take (n + 1) = es.take n ++ [e] := by
                  rw [List.take_add_one, he]
                  rfl
                rw [this, List.append_assoc]
                congr 1
                simp [eby]
              have HPE := Lib.hid (fun (u : World) (hu : Row u e.a (bytes e.x.data)) => putEntry_good hu hke.2.1 hke.2.2 e.c hke.1)
              unfold enV at HPE
              have HRD := Lib.hid hrd
              have HKe := Lib.hid hke
              generalize ZE ++ eby (es.take n) = YL at HPL hyl hyn
              have HYN := Lib.hid hyn
              have HLE := Lib.hid (⟨hyl, hle⟩ : YL.length ≤ 50000 ∧ (encB (putE e.x)).length ≤ 5009)
              clear hyl hle hyn hrd hke hem he
              go_wp2_with (go_at_call 5; refine Stop.mk ?_)
              unfold Stop
              have kA := (Kp.refl (fun _ => False) wr).alloc (.cells #[.int .i64 e.x.term, .int .i64 e.x.index, .int .i64 e.x.kind, .slice e.a e.x.data.length e.c] 24)
              refine (HPE.out _ (HRD.out.no kA)).mono ?_
              rintro r w9 ⟨o9, c9, rfl, ho9, hk9⟩
              have HP9 := Lib.hid ((HPL.out.call kA).call hk9)
              have HO9 := Lib.hid ho9
              clear kA ho9 hk9 h0 h1 h2 h3 HPE
              generalize hPL : (putE e.x).length = pl at HO9 ⊢
              go_wp2_with (go_at_call 30; refine Stop.mk ?_)
              unfold Stop
              refine (demand_yes _ _).mono ?_
              rintro r w9b ⟨rfl, rfl⟩
              go_wp2_with fail
              have HPy := Lib.hid (HP9.out.call ((Kp.refl _ w9b).drew))
              have HMB := Lib.hid (mbytes_any (w := w9b.drew) (HO9.out.row.no ((Kp.refl _ _).drew)) (by have := putE_len HKe.out.1; omega) c9)
              rw [hPL] at HMB
              have HNB := Lib.hid (show ¬ (some (w.heap.size + 1) = blockOf ob) from fun h => by have := (HPL.out.2.2.2.1.from h.symm).1; omega)
              clear hPL
              refine wp_only ?_
              refine wp_region_held_drew (S := fun _ => True) (by kernel_rfl) trivial (fun _ => ?_)
              change wpAnyH _ _ _ _ _ _ _ _ w9b.drew
              generalize w9b.drew = y1 at HPy HMB ⊢
              have cy := cell_of HPy.out.2.1 0 (v := .slice ob YL.length cb) rfl
              refine wpAnyH_take (i := 1) (v := ?_) rfl (by kernel_rfl) (by kernel_rfl) (by kernel_rfl) (fun _ _ _ h => by cases h.1) (Or.inl ⟨by rfl, ?_⟩) trivial ?_
              rotate_left
              · intro w hSw
                go_simp
                try with_reducible rfl
              try simp only [Act.put, List.getElem_toArray, List.getElem_cons_zero, List.getElem_cons_succ, List.setIfInBounds_toArray, List.set_cons_zero, List.set_cons_succ]
              refine wpAnyH_ready (rs := [0, 2]) (by kernel_rfl) (by simp) ?_
              refine AllReadyH.cons rfl (fun K hK => ?_) (AllReadyH.cons rfl (fun K hK => ?_) AllReadyH.nil)
              focus
                go_simp
                refine hK.out _ _ trivial (fun _ => ?_)
                clear hK K
                try simp only [Act.put, List.getElem_toArray, List.getElem_cons_zero, List.getElem_cons_succ, List.setIfInBounds_toArray, List.set_cons_zero, List.set_cons_succ]
                refine wpAnyH_ready (rs := [2]) (by kernel_rfl) (by simp) ?_
                refine AllReadyH.cons rfl (fun K hK => ?_) AllReadyH.nil
                go_simp
                refine (HMB.out).mono ?_
                rintro r w10 ⟨o10, c10, rfl, ho10, hk10⟩
                obtain ⟨ad10, rfl⟩ : ∃ ad, o10 = some ad := by
                  obtain ⟨g1, q1, q2⟩ := ho10.cell (j := 0) (u := ((bytes (encB (putE e.x)))[0]'(by simp [bytes, encB, enc]))) (List.getElem?_eq_getElem _)
                  exact ⟨_, q1⟩
                have HPV10 := Lib.hid (HPy.out.call hk10)
                have HO10 := Lib.hid ho10.row
                clear ho10 hk10
                refine hK.out _ _ trivial (fun _ => ?_)
                clear hK K
                try simp only [Act.put, List.getElem_toArray, List.getElem_cons_zero, List.getElem_cons_succ, List.setIfInBounds_toArray, List.set_cons_zero, List.set_cons_succ]
                refine wpAnyH_ready (rs := [3]) (by kernel_rfl) (by simp) ?_
                refine AllReadyH.cons rfl (fun K hK => ?_) AllReadyH.nil
                rw [if_pos (by rfl)]
                refine oper_app _ _ 22 rfl (w.heap.size + 3) 5 info5 Tryz.underlying22 rfl (by decide) rfl HPV10.out.2.2.2.1 rfl (news := bytes (encB (putE e.x))) (by simp [bytes]) (fun j u hu => by obtain ⟨_, q1, q2⟩ := HO10.out.news j u hu; cases q1; exact q2) (one_bytes _) (by have := HLE.out; unfold maxLen; omega) (by have := HLE.out; omega) HPV10.out.2.2.2.2.2 ?_
                intro a11 c11 w11 ho11 hk11
                refine hK.out _ _ trivial (fun _ => ?_)
                clear hK K
                try simp only [Act.put, List.getElem_toArray, List.getElem_cons_zero, List.getElem_cons_succ, List.setIfInBounds_toArray, List.set_cons_zero, List.set_cons_succ]
                have g11 := hk11.heap HPV10.out.2.1 HNB.out
                have cc11 := cell_of g11 0 (v := .slice ob YL.length cb) rfl
                have ff11 := free_of g11 0
                rw [show bytes YL ++ bytes (encB (putE e.x)) = bytes (YL ++ encB (putE e.x)) by simp [bytes], show YL.length + (encB (putE e.x)).length = (YL ++ encB (putE e.x)).length by simp] at ho11
                rw [show YL.length + (encB (putE e.x)).length = (YL ++ encB (putE e.x)).length by simp]
                have hp12 := HPV10.out.put ho11 hk11
                generalize YL ++ encB (putE e.x) = YN at hp12 HYN ⊢
                have HP12 := Lib.hid hp12
                clear ho11 hk11 g11 hp12
                refine wpAnyH_ready (rs := [4]) (by kernel_rfl) (by simp) ?_
                refine AllReadyH.cons rfl (fun K hK => ?_) AllReadyH.nil
                go_simp
                refine hK.out _ _ trivial (fun _ => ?_)
                clear hK K
                try simp only [Act.put, List.getElem_toArray, List.getElem_cons_zero, List.getElem_cons_succ, List.setIfInBounds_toArray, List.set_cons_zero, List.set_cons_succ]
                refine wpAnyH_done (by kernel_rfl) ⟨rfl, ?_⟩ _
              rotate_left
              focus
                go_simp
                refine (HMB.out).mono ?_
                rintro r w10 ⟨o10, c10, rfl, ho10, hk10⟩
                obtain ⟨ad10, rfl⟩ : ∃ ad, o10 = some ad := by
                  obtain ⟨g1, q1, q2⟩ := ho10.cell (j := 0) (u := ((bytes (encB (putE e.x)))[0]'(by simp [bytes, encB, enc]))) (List.getElem?_eq_getElem _)
                  exact ⟨_, q1⟩
                have HPV10 := Lib.hid (HPy.out.call hk10)
                have HO10 := Lib.hid ho10.row
                clear ho10 hk10
                refine hK.out _ _ trivial (fun _ => ?_)
                clear hK K
                try simp only [Act.put, List.getElem_toArray, List.getElem_cons_zero, List.getElem_cons_succ, List.setIfInBounds_toArray, List.set_cons_zero, List.set_cons_succ]
                have cy2 := cell_of HPV10.out.2.1 0 (v := .slice ob YL.length cb) rfl
                refine wpAnyH_ready (rs := [0]) (by kernel_rfl) (by simp) ?_
                refine AllReadyH.cons rfl (fun K hK => ?_) AllReadyH.nil
                go_simp
                refine hK.out _ _ trivial (fun _ => ?_)
                clear hK K
                try simp only [Act.put, List.getElem_toArray, List.getElem_cons_zero, List.getElem_cons_succ, List.setIfInBounds_toArray, List.set_cons_zero, List.set_cons_succ]
                refine wpAnyH_ready (rs := [3]) (by kernel_rfl) (by simp) ?_
                refine AllReadyH.cons rfl (fun K hK => ?_) AllReadyH.nil
                rw [if_pos (by rfl)]
                refine oper_app _ _ 22 rfl (w.heap.size + 3) 5 info5 Tryz.underlying22 rfl (by decide) rfl HPV10.out.2.2.2.1 rfl (news := bytes (encB (putE e.x))) (by simp [bytes]) (fun j u hu => by obtain ⟨_, q1, q2⟩ := HO10.out.news j u hu; cases q1; exact q2) (one_bytes _) (by have := HLE.out; unfold maxLen; omega) (by have := HLE.out; omega) HPV10.out.2.2.2.2.2 ?_
                intro a11 c11 w11 ho11 hk11
                refine hK.out _ _ trivial (fun _ => ?_)
                clear hK K
                try simp only [Act.put, List.getElem_toArray, List.getElem_cons_zero, List.getElem_cons_succ, List.setIfInBounds_toArray, List.set_cons_zero, List.set_cons_succ]
                have g11 := hk11.heap HPV10.out.2.1 HNB.out
                have cc11 := cell_of g11 0 (v := .slice ob YL.length cb) rfl
                have ff11 := free_of g11 0
                rw [show bytes YL ++ bytes (encB (putE e.x)) = bytes (YL ++ encB (putE e.x)) by simp [bytes], show YL.length + (encB (putE e.x)).length = (YL ++ encB (putE e.x)).length by simp] at ho11
                rw [show YL.length + (encB (putE e.x)).length = (YL ++ encB (putE e.x)).length by simp]
                have hp12 := HPV10.out.put ho11 hk11
                generalize YL ++ encB (putE e.x) = YN at hp12 HYN ⊢
                have HP12 := Lib.hid hp12
                clear ho11 hk11 g11 hp12
                refine wpAnyH_ready (rs := [4]) (by kernel_rfl) (by simp) ?_
                refine AllReadyH.cons rfl (fun K hK => ?_) AllReadyH.nil
                go_simp
                refine hK.out _ _ trivial (fun _ => ?_)
                clear hK K
                try simp only [Act.put, List.getElem_toArray, List.getElem_cons_zero, List.getElem_cons_succ, List.setIfInBounds_toArray, List.set_cons_zero, List.set_cons_succ]
                refine wpAnyH_done (by kernel_rfl) ⟨rfl, ?_⟩ _
              all_goals
                go_wp2_with fail
                exact ⟨⟨n + 1, a11, c11, rfl, hlt, by rw [HYN.out]; exact HP12.out⟩, meas1 hlt⟩
            · obtain rfl : n = ne := by omega
              have hmz : mby k f t m a b c d true (es.map Ep.x) bs dd = ZE ++ eby (es.take n) := by
                have e3 : k = 3 := by have := HZ.out.1; omega
                have e4 : es.take n = es := List.take_of_length_le (by rw [HNE.out]; omega)
                rw [HZE.out, mby, if_pos e3, e4, List.length_map, HNE.out, List.append_assoc, List.append_assoc]
                congr 3
                simp [eby, List.flatMap_map]
              have HMZ := Lib.hid hmz
              generalize ZE ++ eby (es.take n) = YL at hp hmz HPL HMZ
              obtain ⟨z1, z2, z3⟩ := hp.fin
              have HZ3 := Lib.hid z3
              have dd1 := cell_of hp.2.1 0 (v := .slice ob YL.length cb) rfl
              have dd2 := cell_of hp.2.2.1 0 (v := .int .i64 0) rfl
              have gg1 := free_of hp.2.1 0
              have gg3 := free_of hp.2.2.1 0
              clear hp z3 hmz
              go_wp2_with fail
              refine leaves_cons (f := 32) (args := #[.pointer (some ⟨w.heap.size + 1, 0, none⟩), .pointer (some ⟨w.heap.size + 1 + 1, 0, none⟩)]) (by simp) (by simp [go_sem]) ?_
              refine (caught32_idle _ _ _).mono ?_
              rintro e u' w11 ⟨rfl, rfl, rfl⟩
              rw [HMZ.out]
              exact ⟨.tuple #[.slice ob YL.length cb, .int .i64 0], by simp [results, Tryz.results10, go_sem, z1, z2], HZ3.out⟩
        · by_cases hk5 : kz = 5
          · have hsv : srv xs = some bs := HKS.out (by have := HZ.out.1; omega)
            have HS8 := Lib.hid (fun (u : World) (hu : Kp (fun j => w.heap.size ≤ j) w u) => putServers_any (HXS.out.old hu) cs)
            rw [HNS.out] at HS8
            go_wp2_with (go_at_call 8; refine Stop.mk ?_)
            unfold Stop
            refine (HS8.out _ HP5.out.2.2.2.2.1).mono ?_
            rintro r w8 ⟨hk8, hx8⟩
            rw [hsv] at hx8
            obtain ⟨b', o8, c8', hb', rfl, ho8⟩ : ∃ (b' : List Int) (o8 : Option Addr) (c8' : Nat), some bs = some b' ∧ r = .returned (.tuple #[.slice o8 b'.length c8', .int .i64 0]) ∧ Row w8 o8 (bytes b') := by
              rcases hx8 with ⟨h, _⟩ | ⟨b', o8, c8', h1, h2, h3⟩
              · cases h
              · exact ⟨b', o8, c8', h1, h2, h3.row⟩
            cases hb'
            have HP8 := Lib.hid (HP5.out.call hk8)
            have HO8 := Lib.hid ho8
            have hbl := srv_len hsv
            have HBL := Lib.hid hbl
            clear hk8 hx8 ho8 HS8 hbl
            go_wp2_with (go_at_call 30; refine Stop.mk ?_)
            unfold Stop
            refine (demand_yes _ _).mono ?_
            rintro r w8b ⟨rfl, rfl⟩
            go_wp2_with fail
            have HPy0 := Lib.hid (HP8.out.call ((Kp.refl _ w8b).drew))
            have hB0 := HPy0.out.1
            refine wp_only ?_
            refine wp_region_held_drew (S := fun w' => w'.heap[w.heap.size]? = some (.cells #[.int .i64 kz, .int .i64 fz, .int .i64 tz, .int .i64 mz, .int .i64 az, .int .i64 bz, .int .i64 cz, .int .i64 dz, .bool true, .slice oe ne ce, .slice os ns cs, .slice od nd cd] 37 (0, 0))) (by kernel_rfl) hB0 (fun hHeld => ?_)
            clear hB0
            have HBB := Lib.hid (mbytes_any (w := w8b.drew) (HO8.out.no ((Kp.refl _ _).drew)) (by have := HBL.out; omega) c8')
            have HDDy := Lib.hid (HDD.out.old HPy0.out.2.2.2.2.1)
            have hlen : bs.length ≤ 80 ∧ dd.length ≤ 1048576 ∧ (encB bs).length ≤ 89 ∧ (encB dd).length ≤ 1048585 := by
              have q1 := HBL.out
              have q2 := HND6.out
              have q3 := HND.out
              have q4 := encB_len (b := bs) (by omega)
              have q5 := encB_len (b := dd) (by omega)
              omega
            have HLEN := Lib.hid hlen
            clear hlen
            generalize w8b.drew = y0 at hHeld HPy0 HBB HDDy ⊢
            refine wpAnyH_take (i := 1) (v := ?_) rfl (by kernel_rfl) (by kernel_rfl) (by kernel_rfl) (fun _ _ _ h => by cases h.1) (Or.inl ⟨by rfl, ?_⟩) (by assumption) ?_
            rotate_left
            · intro w hSw
              go_simp
              try with_reducible rfl
            try simp only [Act.put, List.getElem_toArray, List.getElem_cons_zero, List.getElem_cons_succ, List.setIfInBounds_toArray, List.set_cons_zero, List.set_cons_succ]
            refine wpAnyH_take (i := 3) (v := ?_) rfl (by kernel_rfl) (by kernel_rfl) (by kernel_rfl) (fun _ _ _ h => by cases h.1) (Or.inl ⟨by rfl, ?_⟩) (by assumption) ?_
            rotate_left
            · intro w hSw
              go_simp
              try with_reducible rfl
            try simp only [Act.put, List.getElem_toArray, List.getElem_cons_zero, List.getElem_cons_succ, List.setIfInBounds_toArray, List.set_cons_zero, List.set_cons_succ]
            refine wpAnyH_take (i := 4) (v := .slice od nd cd) rfl (by kernel_rfl) (by kernel_rfl) (by kernel_rfl) (fun _ _ _ h => by cases h.1) (Or.inl ⟨by rfl, ?_⟩) (by assumption) ?_
            · intro w hSw
              have hc := cell_of hSw 11 (v := .slice od nd cd) rfl
              go_simp
              try with_reducible rfl
            try simp only [Act.put, List.getElem_toArray, List.getElem_cons_zero, List.getElem_cons_succ, List.setIfInBounds_toArray, List.set_cons_zero, List.set_cons_succ]
            refine wpAnyH_ready (rs := [0, 2]) (by kernel_rfl) (by simp) ?_
            refine AllReadyH.cons rfl (fun K hK => ?_) (AllReadyH.cons rfl (fun K hK => ?_) (AllReadyH.nil))
            focus
              have dd1 := cell_of HPy0.out.2.1 0 (v := .slice a5 Z.length c5) rfl
              go_simp
              refine hK.out _ _ (by assumption) (fun hHeld => ?_)
              clear hK K
              try simp only [Act.put, List.getElem_toArray, List.getElem_cons_zero, List.getElem_cons_succ, List.setIfInBounds_toArray, List.set_cons_zero, List.set_cons_succ]
              refine wpAnyH_ready (rs := [2]) (by kernel_rfl) (by simp) ?_
              refine AllReadyH.cons rfl (fun K hK => ?_) (AllReadyH.nil)
              go_simp
              refine (HBB.out).mono ?_
              rintro r w6 ⟨o6, c6, rfl, ho6, hk6⟩
              have HPw6 := Lib.hid (HPy0.out.call hk6)
              have HO6 := Lib.hid ho6.row
              have HD6 := Lib.hid (mbytes_any ((HDDy.out.no hk6)) (by rw [HND.out]; have := HND6.out; omega) cd)
              rw [HND.out] at HD6
              have hH6 := hk6.heap hHeld (fun h => h)
              clear ho6 hk6 hHeld
              refine hK.out _ _ hH6 (fun hHeld => ?_)
              clear hK K
              try simp only [Act.put, List.getElem_toArray, List.getElem_cons_zero, List.getElem_cons_succ, List.setIfInBounds_toArray, List.set_cons_zero, List.set_cons_succ]
              refine wpAnyH_ready (rs := [5]) (by kernel_rfl) (by simp) ?_
              refine AllReadyH.cons rfl (fun K hK => ?_) (AllReadyH.nil)
              go_simp
              refine (HD6.out).mono ?_
              rintro r w7 ⟨o7, c7, rfl, ho7, hk7⟩
              have HPw7 := Lib.hid (HPw6.out.call hk7)
              have HO67 := Lib.hid (HO6.out.no hk7)
              have HO7 := Lib.hid ho7.row
              have hH7 := hk7.heap hHeld (fun h => h)
              clear ho7 hk7 hHeld
              refine hK.out _ _ hH7 (fun hHeld => ?_)
              clear hK K
              try simp only [Act.put, List.getElem_toArray, List.getElem_cons_zero, List.getElem_cons_succ, List.setIfInBounds_toArray, List.set_cons_zero, List.set_cons_succ]
              refine wpAnyH_ready (rs := [6]) (by kernel_rfl) (by simp) ?_
              refine AllReadyH.cons rfl (fun K hK => ?_) (AllReadyH.nil)
              go_simp
              refine hK.out _ _ (heap_old _ hHeld) (fun hHeld => ?_)
              clear hK K
              try simp only [Act.put, List.getElem_toArray, List.getElem_cons_zero, List.getElem_cons_succ, List.setIfInBounds_toArray, List.set_cons_zero, List.set_cons_succ]
              refine wpAnyH_ready (rs := [7]) (by kernel_rfl) (by simp) ?_
              refine AllReadyH.cons rfl (fun K hK => ?_) (AllReadyH.nil)
              go_simp
              refine (join3 c5 c6 c7 HPw7.out.2.2.2.1.row HO67.out HO7.out (by have := HZL.out; have := HLEN.out; omega)).mono ?_
              rintro r w9 ⟨o9, c9, rfl, ho9, hk9⟩
              generalize hJJ : Z ++ (encB bs ++ encB dd) = JJ at ho9 ⊢
              have HJJ := Lib.hid hJJ
              clear hJJ
              have HPw9 := Lib.hid ((HPw7.out.call ((Kp.refl _ _).alloc _)).call hk9)
              have hO9 : Owns w9 (w.heap.size + 3) 5 1 o9 JJ.length c9 (bytes JJ) := ho9.low (by have := HPw7.out.2.2.2.2.2; simp; omega)
              have HO9 := Lib.hid hO9
              have hH9 := hk9.heap hHeld (fun h => h)
              have e1 := cell_of HPw9.out.2.1 0 (v := .slice a5 Z.length c5) rfl
              have e2 := free_of HPw9.out.2.1 0
              clear ho9 hk9 hO9 hHeld
              refine hK.out _ _ hH9 (fun hHeld => ?_)
              clear hK K
              try simp only [Act.put, List.getElem_toArray, List.getElem_cons_zero, List.getElem_cons_succ, List.setIfInBounds_toArray, List.set_cons_zero, List.set_cons_succ]
              refine wpAnyH_ready (rs := [8]) (by kernel_rfl) (by simp) ?_
              refine AllReadyH.cons rfl (fun K hK => ?_) (AllReadyH.nil)
              go_simp
              refine hK.out _ _ (heap_set_other ⟨w.heap.size + 1, 0, none⟩ _ hHeld (by simp)) (fun hHeld => ?_)
              clear hK K
              try simp only [Act.put, List.getElem_toArray, List.getElem_cons_zero, List.getElem_cons_succ, List.setIfInBounds_toArray, List.set_cons_zero, List.set_cons_succ]
              refine wpAnyH_done (by kernel_rfl) ⟨rfl, ?_⟩ _
            rotate_left
            focus
              go_simp
              refine (HBB.out).mono ?_
              rintro r w6 ⟨o6, c6, rfl, ho6, hk6⟩
              have HPw6 := Lib.hid (HPy0.out.call hk6)
              have HO6 := Lib.hid ho6.row
              have HD6 := Lib.hid (mbytes_any ((HDDy.out.no hk6)) (by rw [HND.out]; have := HND6.out; omega) cd)
              rw [HND.out] at HD6
              have hH6 := hk6.heap hHeld (fun h => h)
              clear ho6 hk6 hHeld
              refine hK.out _ _ hH6 (fun hHeld => ?_)
              clear hK K
              try simp only [Act.put, List.getElem_toArray, List.getElem_cons_zero, List.getElem_cons_succ, List.setIfInBounds_toArray, List.set_cons_zero, List.set_cons_succ]
              refine wpAnyH_ready (rs := [0, 5]) (by kernel_rfl) (by simp) ?_
              refine AllReadyH.cons rfl (fun K hK => ?_) (AllReadyH.cons rfl (fun K hK => ?_) (AllReadyH.nil))
              focus
                have dd1 := cell_of HPw6.out.2.1 0 (v := .slice a5 Z.length c5) rfl
                go_simp
                refine hK.out _ _ (by assumption) (fun hHeld => ?_)
                clear hK K
                try simp only [Act.put, List.getElem_toArray, List.getElem_cons_zero, List.getElem_cons_succ, List.setIfInBounds_toArray, List.set_cons_zero, List.set_cons_succ]
                refine wpAnyH_ready (rs := [5]) (by kernel_rfl) (by simp) ?_
                refine AllReadyH.cons rfl (fun K hK => ?_) (AllReadyH.nil)
                go_simp
                refine (HD6.out).mono ?_
                rintro r w7 ⟨o7, c7, rfl, ho7, hk7⟩
                have HPw7 := Lib.hid (HPw6.out.call hk7)
                have HO67 := Lib.hid (HO6.out.no hk7)
                have HO7 := Lib.hid ho7.row
                have hH7 := hk7.heap hHeld (fun h => h)
                clear ho7 hk7 hHeld
                refine hK.out _ _ hH7 (fun hHeld => ?_)
                clear hK K
                try simp only [Act.put, List.getElem_toArray, List.getElem_cons_zero, List.getElem_cons_succ, List.setIfInBounds_toArray, List.set_cons_zero, List.set_cons_succ]
                refine wpAnyH_ready (rs := [6]) (by kernel_rfl) (by simp) ?_
                refine AllReadyH.cons rfl (fun K hK => ?_) (AllReadyH.nil)
                go_simp
                refine hK.out _ _ (heap_old _ hHeld) (fun hHeld => ?_)
                clear hK K
                try simp only [Act.put, List.getElem_toArray, List.getElem_cons_zero, List.getElem_cons_succ, List.setIfInBounds_toArray, List.set_cons_zero, List.set_cons_succ]
                refine wpAnyH_ready (rs := [7]) (by kernel_rfl) (by simp) ?_
                refine AllReadyH.cons rfl (fun K hK => ?_) (AllReadyH.nil)
                go_simp
                refine (join3 c5 c6 c7 HPw7.out.2.2.2.1.row HO67.out HO7.out (by have := HZL.out; have := HLEN.out; omega)).mono ?_
                rintro r w9 ⟨o9, c9, rfl, ho9, hk9⟩
                generalize hJJ : Z ++ (encB bs ++ encB dd) = JJ at ho9 ⊢
                have HJJ := Lib.hid hJJ
                clear hJJ
                have HPw9 := Lib.hid ((HPw7.out.call ((Kp.refl _ _).alloc _)).call hk9)
                have hO9 : Owns w9 (w.heap.size + 3) 5 1 o9 JJ.length c9 (bytes JJ) := ho9.low (by have := HPw7.out.2.2.2.2.2; simp; omega)
                have HO9 := Lib.hid hO9
                have hH9 := hk9.heap hHeld (fun h => h)
                have e1 := cell_of HPw9.out.2.1 0 (v := .slice a5 Z.length c5) rfl
                have e2 := free_of HPw9.out.2.1 0
                clear ho9 hk9 hO9 hHeld
                refine hK.out _ _ hH9 (fun hHeld => ?_)
                clear hK K
                try simp only [Act.put, List.getElem_toArray, List.getElem_cons_zero, List.getElem_cons_succ, List.setIfInBounds_toArray, List.set_cons_zero, List.set_cons_succ]
                refine wpAnyH_ready (rs := [8]) (by kernel_rfl) (by simp) ?_
                refine AllReadyH.cons rfl (fun K hK => ?_) (AllReadyH.nil)
                go_simp
                refine hK.out _ _ (heap_set_other ⟨w.heap.size + 1, 0, none⟩ _ hHeld (by simp)) (fun hHeld => ?_)
                clear hK K
                try simp only [Act.put, List.getElem_toArray, List.getElem_cons_zero, List.getElem_cons_succ, List.setIfInBounds_toArray, List.set_cons_zero, List.set_cons_succ]
                refine wpAnyH_done (by kernel_rfl) ⟨rfl, ?_⟩ _
              rotate_left
              focus
                go_simp
                refine (HD6.out).mono ?_
                rintro r w7 ⟨o7, c7, rfl, ho7, hk7⟩
                have HPw7 := Lib.hid (HPw6.out.call hk7)
                have HO67 := Lib.hid (HO6.out.no hk7)
                have HO7 := Lib.hid ho7.row
                have hH7 := hk7.heap hHeld (fun h => h)
                clear ho7 hk7 hHeld
                refine hK.out _ _ hH7 (fun hHeld => ?_)
                clear hK K
                try simp only [Act.put, List.getElem_toArray, List.getElem_cons_zero, List.getElem_cons_succ, List.setIfInBounds_toArray, List.set_cons_zero, List.set_cons_succ]
                refine wpAnyH_ready (rs := [0]) (by kernel_rfl) (by simp) ?_
                refine AllReadyH.cons rfl (fun K hK => ?_) (AllReadyH.nil)
                have dd1 := cell_of HPw7.out.2.1 0 (v := .slice a5 Z.length c5) rfl
                go_simp
                refine hK.out _ _ (by assumption) (fun hHeld => ?_)
                clear hK K
                try simp only [Act.put, List.getElem_toArray, List.getElem_cons_zero, List.getElem_cons_succ, List.setIfInBounds_toArray, List.set_cons_zero, List.set_cons_succ]
                refine wpAnyH_ready (rs := [6]) (by kernel_rfl) (by simp) ?_
                refine AllReadyH.cons rfl (fun K hK => ?_) (AllReadyH.nil)
                go_simp
                refine hK.out _ _ (heap_old _ hHeld) (fun hHeld => ?_)
                clear hK K
                try simp only [Act.put, List.getElem_toArray, List.getElem_cons_zero, List.getElem_cons_succ, List.setIfInBounds_toArray, List.set_cons_zero, List.set_cons_succ]
                refine wpAnyH_ready (rs := [7]) (by kernel_rfl) (by simp) ?_
                refine AllReadyH.cons rfl (fun K hK => ?_) (AllReadyH.nil)
                go_simp
                refine (join3 c5 c6 c7 HPw7.out.2.2.2.1.row HO67.out HO7.out (by have := HZL.out; have := HLEN.out; omega)).mono ?_
                rintro r w9 ⟨o9, c9, rfl, ho9, hk9⟩
                generalize hJJ : Z ++ (encB bs ++ encB dd) = JJ at ho9 ⊢
                have HJJ := Lib.hid hJJ
                clear hJJ
                have HPw9 := Lib.hid ((HPw7.out.call ((Kp.refl _ _).alloc _)).call hk9)
                have hO9 : Owns w9 (w.heap.size + 3) 5 1 o9 JJ.length c9 (bytes JJ) := ho9.low (by have := HPw7.out.2.2.2.2.2; simp; omega)
                have HO9 := Lib.hid hO9
                have hH9 := hk9.heap hHeld (fun h => h)
                have e1 := cell_of HPw9.out.2.1 0 (v := .slice a5 Z.length c5) rfl
                have e2 := free_of HPw9.out.2.1 0
                clear ho9 hk9 hO9 hHeld
                refine hK.out _ _ hH9 (fun hHeld => ?_)
                clear hK K
                try simp only [Act.put, List.getElem_toArray, List.getElem_cons_zero, List.getElem_cons_succ, List.setIfInBounds_toArray, List.set_cons_zero, List.set_cons_succ]
                refine wpAnyH_ready (rs := [8]) (by kernel_rfl) (by simp) ?_
                refine AllReadyH.cons rfl (fun K hK => ?_) (AllReadyH.nil)
                go_simp
                refine hK.out _ _ (heap_set_other ⟨w.heap.size + 1, 0, none⟩ _ hHeld (by simp)) (fun hHeld => ?_)
                clear hK K
                try simp only [Act.put, List.getElem_toArray, List.getElem_cons_zero, List.getElem_cons_succ, List.setIfInBounds_toArray, List.set_cons_zero, List.set_cons_succ]
                refine wpAnyH_done (by kernel_rfl) ⟨rfl, ?_⟩ _
            all_goals
              have hp10 := HPw9.out.set HO9.out
              obtain ⟨z1, z2, z3⟩ := hp10.fin
              have HZ3 := Lib.hid z3
              have dd1 := cell_of hp10.2.1 0 (v := .slice o9 JJ.length c9) rfl
              have dd2 := cell_of hp10.2.2.1 0 (v := .int .i64 0) rfl
              have gg1 := free_of hp10.2.1 0
              have gg3 := free_of hp10.2.2.1 0
              clear hp10 z3 e1 e2
              go_wp2_with fail
              refine leaves_cons (f := 32) (args := #[.pointer (some ⟨w.heap.size + 1, 0, none⟩), .pointer (some ⟨w.heap.size + 1 + 1, 0, none⟩)]) (by simp) (by simp [go_sem]) ?_
              refine (caught32_idle _ _ _).mono ?_
              rintro e u' w11 ⟨rfl, rfl, rfl⟩
              have hmz : mby k f t m a b c d true (es.map Ep.x) bs dd = JJ := by
                have e5 : k = 5 := by have := HZ.out.1; omega
                have e3 : ¬ k = 3 := by omega
                rw [← HJJ.out, HZY.out, mby, if_neg e3, if_pos e5, List.append_assoc]
              rw [hmz]
              exact ⟨.tuple #[.slice o9 JJ.length c9, .int .i64 0], by simp [results, Tryz.results10, go_sem, z1, z2], HZ3.out⟩
          · go_wp2_with fail
            refine leaves_cons (f := 32) (args := #[.pointer (some ⟨w.heap.size + 1, 0, none⟩), .pointer (some ⟨w.heap.size + 1 + 1, 0, none⟩)]) (by simp) (by simp [go_sem]) ?_
            refine (caught32_idle _ _ _).mono ?_
            rintro e u' w9 ⟨rfl, rfl, rfl⟩
            obtain ⟨z1, z2, z3⟩ := HP5.out.fin
            have hmz : mby k f t m a b c d true (es.map Ep.x) bs dd = Z := by
              have e3 : ¬ k = 3 := fun e => hk3 (by rw [← HZ.out.1, e]; rfl)
              have e5 : ¬ k = 5 := fun e => hk5 (by rw [← HZ.out.1, e]; rfl)
              rw [HZY.out, mby, if_neg e3, if_neg e5, List.append_nil]
            rw [hmz]
            exact ⟨.tuple #[.slice a5 Z.length c5, .int .i64 0], by simp [results, Tryz.results10, go_sem, z1, z2], z3⟩
end Go.Proofs.YtecohkoekifeiaaGreatDoor
namespace Go.Proofs.YtecohkoekifeiaaGreatDoor
open Go.ChangeShapes Go.WideShapes Go.ChangeAt Go.RowKit
set_option linter.unusedVariables false
set_option linter.unusedSimpArgs false

set_option maxRecDepth 100000 in
set_option maxHeartbeats 1600000 in
theorem mPut_zero (w : World) : Calls Tryz.prog 10 #[.agg noMsg] w fun r w' => r = .returned (.tuple #[.slice none 0 0, .int .i64 1]) ∧ Kp (fun _ => False) w w' := by
  have HM := Lib.hid (fun u => rightM_any u 0 0 0 0 0 0 0 0 1 false none none none 0 0 0 0 0 0 (by omega) (by omega) (by omega))
  have hno : ¬ okM 0 0 0 0 0 0 0 0 0 0 0 := by unfold okM; omega
  have HNO := Lib.hid hno
  clear hno
  unfold noMsg
  go_enter_defers Tryz.func10, Tryz.ntmps10
  go_wp2_with (go_at_call 31; refine Stop.mk ?_)
  unfold Stop
  obtain ⟨V, hV⟩ : ∃ V, V = ((w.alloc (.cells noMsg 37)).alloc (.cells #[.slice none 0 0] 22)).alloc (.cells #[.int .i64 0] 25) := ⟨_, rfl⟩
  have kV : Kp (fun _ => False) w V := by rw [hV]; exact (((Kp.refl _ w).alloc _).alloc _).alloc _
  have b2 : V.heap[w.heap.size + 1]? = some (.cells #[.slice none 0 0] 22 (0, 0)) := by
    rw [hV]
    have := heap_new (w.alloc (.cells noMsg 37)) (.cells #[.slice none 0 0] 22)
    rw [World.size_alloc] at this
    exact heap_old _ this
  have b3 : V.heap[w.heap.size + 1 + 1]? = some (.cells #[.int .i64 0] 25 (0, 0)) := by
    rw [hV]
    have := heap_new ((w.alloc (.cells noMsg 37)).alloc (.cells #[.slice none 0 0] 22)) (.cells #[.int .i64 0] 25)
    rw [World.size_alloc, World.size_alloc] at this
    exact this
  change Calls Tryz.prog 31 _ (((w.alloc (.cells noMsg 37)).alloc (.cells #[.slice none 0 0] 22)).alloc (.cells #[.int .i64 0] 25)) _
  rw [← hV]
  clear hV
  refine (HM.out _).mono ?_
  rintro r w1 ⟨hk1, hr⟩
  obtain rfl : r = .panicked [{ v := .iface 25 (.int .i64 1), recovered := false }] := by
    rcases hr with ⟨h, _⟩ | ⟨_, h⟩
    · exact absurd h HNO.out
    · exact h
  have c2 := hk1.heap b2 (fun h => h)
  have c3 := hk1.heap b3 (fun h => h)
  have k1 := kV.trans hk1
  clear hr b2 b3 hk1 kV HM HNO
  refine leaves_cons (f := 32) (args := #[.pointer (some ⟨w.heap.size + 1, 0, none⟩), .pointer (some ⟨w.heap.size + 1 + 1, 0, none⟩)]) (by simp) (by simp [go_sem]) ?_
  refine (caught32_panics ⟨w.heap.size + 1, 0, none⟩ ⟨w.heap.size + 1 + 1, 0, none⟩ 1 0 (.slice none 0 0) [] w1 (cell_of c2 0 rfl) (free_of c2 0) (cell_of c3 0 rfl) (free_of c3 0) (by simp)).mono ?_
  rintro e u' w9 ⟨rfl, rfl, rfl⟩
  have z1 := heap_set_other (p := ⟨w.heap.size + 1 + 1, 0, none⟩) (u := .int .i64 1) (heap_set c2 0 (.slice none 0 0)) (by simp)
  have z2 := heap_set (heap_set_other (p := ⟨w.heap.size + 1, 0, none⟩) (u := .slice none 0 0) c3 (by simp)) 0 (.int .i64 1)
  have y1 := cell_of (w := ((w1.setCell ⟨w.heap.size + 1, 0, none⟩ (.slice none 0 0)).setCell ⟨w.heap.size + 1 + 1, 0, none⟩ (.int .i64 1)).drew) z1 0 (v := .slice none 0 0) rfl
  have y2 := cell_of (w := ((w1.setCell ⟨w.heap.size + 1, 0, none⟩ (.slice none 0 0)).setCell ⟨w.heap.size + 1 + 1, 0, none⟩ (.int .i64 1)).drew) z2 0 (v := .int .i64 1) rfl
  have hk : Kp (fun _ => False) w ((w1.setCell ⟨w.heap.size + 1, 0, none⟩ (.slice none 0 0)).setCell ⟨w.heap.size + 1 + 1, 0, none⟩ (.int .i64 1)).drew :=
    ((k1.setCell (p := ⟨w.heap.size + 1, 0, none⟩) (.inr (by simp)) _).setCell (p := ⟨w.heap.size + 1 + 1, 0, none⟩) (.inr (by simp; omega)) _).drew
  generalize ((w1.setCell ⟨w.heap.size + 1, 0, none⟩ (.slice none 0 0)).setCell ⟨w.heap.size + 1 + 1, 0, none⟩ (.int .i64 1)).drew = W at y1 y2 hk ⊢
  exact ⟨.tuple #[.slice none 0 0, .int .i64 1], by simp [results, Tryz.results10, go_sem, y1, y2], rfl, hk⟩
end Go.Proofs.YtecohkoekifeiaaGreatDoor
