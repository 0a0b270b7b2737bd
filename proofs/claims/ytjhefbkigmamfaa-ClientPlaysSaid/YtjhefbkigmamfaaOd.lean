/-
  append at a step of a region that draws its order, of any list; order, walked once. Where the reach bounds the bytes.
-/
import Derived.Test.YtjhefbkigmamfaaDn
namespace Go.Proofs.Ytjhefbkigmamfaa
open Go.ChangeShapes Go.WideShapes Go.ChangeAt Go.RowKit
set_option linter.unusedVariables false
set_option linter.unusedSimpArgs false

theorem step_app_any {P : Program} {w : World} {ops : Array Oper} {o : Oper} {ac : Act} {K : Act → World → Prop} {Q : Exit → Act → World → Prop} {E : Prop} (hgd : o.guard = none) (s x : Operand) (t : TypeId)
    (ho : o.op = .call { callee := .builtin .append, args := #[s, x], argTypes := #[t, t] })
    (B : Nat) (e : TypeId) {size bytes : Nat} {z : Value} (hinfo : (P.info? e).map (fun i => (i.zero, i.size, i.bytes)) = some (some z, size, bytes)) (ht : P.underlying t = some (.slice e)) (hzs : z.cells.size = size) (hsz : 0 < size)
    {a : Option Addr} {n cap : Nat} {xs : List Value} (hs : ac.eval s = .slice a n cap) (hown : Owns w B e size a n cap xs)
    {b : Option Addr} {m c : Nat} {news : List Value} (hx : ac.eval x = .slice b m c) (hl : news.length = m * size) (hnews : ∀ j u, news[j]? = some u → ∃ ad, b = some ad ∧ w.cell? (ad.add j) = some u) (h1 : ∀ u ∈ news, u.oneCell' = true)
    (h63 : n + m ≤ maxLen) (hbytes : (n + m) * bytes ≤ 140737488355328) (hbase : B ≤ w.heap.size)
    (h : ∀ a' cap' w', Owns w' B e size a' (n + m) cap' (xs ++ news) → Kp (fun k => some k = blockOf a) w w' → (blockOf a' = blockOf a ∨ blockOf a' = some w.heap.size) → K (ac.put o.dst (.slice a' (n + m) cap')) w') : if Region.wanted o (yielded ops ac.tmps) = true then Oper.wp P o ac w K Q else E := by
  cases b with
  | some ad =>
    refine step_app hgd s x t ho B e hinfo ht hzs hsz hs hown hx hl (fun j u hu => ?_) h1 h63 hbytes hbase h
    obtain ⟨ad', e1, h2⟩ := hnews j u hu
    cases e1
    exact h2
  | none =>
    have hm0 : news = [] := by
      cases hn : news with
      | nil => rfl
      | cons u r =>
        obtain ⟨ad, e1, _⟩ := hnews 0 u (by rw [hn]; rfl)
        cases e1
    subst hm0
    have hm : m = 0 := by
      have : m * size = 0 := by simpa using hl.symm
      rcases Nat.mul_eq_zero.1 this with h | h <;> omega
    subst hm
    obtain ⟨i, hi, hz0, hz1, hz2⟩ := info_parts hinfo
    have hrun : (Builtin.append_ #[t, t] o.type #[.slice a n cap, .slice none 0 c]).run P w = .ok (.slice a n cap) w := by
      rcases hown.2 with ⟨h2, h0⟩ | ⟨g, cap', cur, hv, hge, hg, hn, hc, hs', ht'⟩
      · simp only [Value.slice.injEq] at h2
        obtain ⟨rfl, rfl, rfl⟩ := h2
        simp [Builtin.append_, run_underlying ht, sizeOf, typeInfo, hi, Builtin.lenOf, Builtin.firstCells]
      · simp only [Value.slice.injEq] at hv
        obtain ⟨rfl, _, rfl⟩ := hv
        have := run_append_room_src (P := P) w t t o.type e i ht hi g 0 n cap (.slice none 0 c) 0 [] (Src.ofNil w ht c) (by omega) (by simp) (by simp)
        rw [this]
        rfl
    have hw : Region.wanted o (yielded ops ac.tmps) = true := by simp [Region.wanted, hgd]
    rw [if_pos hw]
    unfold Oper.wp execOp
    simp only [ho, resolve, invoke, builtin, Sem.run_bind, Sem.run_pure, Result.andThen_ok, List.map_toArray, List.map_cons, List.map_nil, hs, hx, hrun]
    exact h a cap w (by rw [Nat.add_zero, List.append_nil]; exact hown) (Kp.refl _ _) (.inl rfl)

theorem Owns.base {w : World} {B B' : Nat} {e : TypeId} {size : Nat} {a : Option Addr} {n cap : Nat} {xs : List Value} (h : Owns w B e size a n cap xs) (hB : B' ≤ B) : Owns w B' e size a n cap xs := by
  refine ⟨h.1, ?_⟩
  rcases h.2 with h | ⟨g, cap', cur, hv, hge, r⟩
  · exact .inl h
  · exact .inr ⟨g, cap', cur, hv, by omega, r⟩
set_option maxRecDepth 100000 in
set_option maxHeartbeats 4000000 in
theorem order_any {w : World} (ki fr mo : Int) (a : Option Addr) (dl : List Int) (c : Nat) (hr : Row w a (bytes dl)) (hm : dl.length ≤ 140737488355328) :
    Calls Try.prog 21 #[.agg #[.int .i64 ki, .int .i64 fr, .int .i64 mo, .slice a dl.length c]] w fun e w' => ∃ na nc, e = .returned (.agg #[.int .i64 ki, .int .i64 fr, .int .i64 mo, .slice na dl.length nc]) ∧ Owns w' w.heap.size 5 1 na dl.length nc (bytes dl) ∧ Kp (fun _ => False) w w' := by
  have hX1 : ((w.alloc (.cells #[.int .i64 ki, .int .i64 fr, .int .i64 mo, .slice a dl.length c] 54)).alloc (.cells #[.int .i64 0, .int .i64 0, .int .i64 0, .slice none 0 0] 32)).heap[w.heap.size]? = some (.cells #[.int .i64 ki, .int .i64 fr, .int .i64 mo, .slice a dl.length c] 54 (0, 0)) := heap_old _ (heap_new w _)
  have hX2 : ((w.alloc (.cells #[.int .i64 ki, .int .i64 fr, .int .i64 mo, .slice a dl.length c] 54)).alloc (.cells #[.int .i64 0, .int .i64 0, .int .i64 0, .slice none 0 0] 32)).heap[w.heap.size + 1]? = some (.cells #[.int .i64 0, .int .i64 0, .int .i64 0, .slice none 0 0] 32 (0, 0)) := by
    have h := heap_new (w.alloc (.cells #[.int .i64 ki, .int .i64 fr, .int .i64 mo, .slice a dl.length c] 54)) (.cells #[.int .i64 0, .int .i64 0, .int .i64 0, .slice none 0 0] 32)
    simpa using h
  have hk0 : Kp (fun _ => False) w ((w.alloc (.cells #[.int .i64 ki, .int .i64 fr, .int .i64 mo, .slice a dl.length c] 54)).alloc (.cells #[.int .i64 0, .int .i64 0, .int .i64 0, .slice none 0 0] 32)) := ((Kp.refl _ _).alloc _).alloc _
  have HR := Lib.hid hr
  have HM := Lib.hid hm
  obtain ⟨n, hn⟩ : ∃ n, n = dl.length := ⟨_, rfl⟩
  have HN := Lib.hid hn
  rw [← hn] at hX1 hX2 hk0 ⊢
  clear hr hm hn
  go_enter Try.func21, Try.ntmps21
  go_upto_region 1 with fail
  have hs0 : ((w.alloc (.cells #[.int .i64 ki, .int .i64 fr, .int .i64 mo, .slice a n c] 54)).alloc (.cells #[.int .i64 0, .int .i64 0, .int .i64 0, .slice none 0 0] 32)).heap.size = w.heap.size + 2 := by simp
  generalize ((w.alloc (.cells #[.int .i64 ki, .int .i64 fr, .int .i64 mo, .slice a n c] 54)).alloc (.cells #[.int .i64 0, .int .i64 0, .int .i64 0, .slice none 0 0] 32)) = w0 at hX1 hX2 hk0 hs0 ⊢
  obtain ⟨X, hX⟩ : ∃ X, X = w.heap.size := ⟨_, rfl⟩
  rw [← hX] at hX1 hX2 hs0 ⊢
  have HX := Lib.hid hX
  have HK := Lib.hid hk0.drew
  clear hX hk0
  refine wp_region_held_drew (S := fun w' => w'.heap[X]? = some (.cells #[.int .i64 ki, .int .i64 fr, .int .i64 mo, .slice a n c] 54 (0, 0))) (by kernel_rfl) hX1 (fun hHeld => ?_)
  have hY : w0.drew.heap[X + 1]? = _ := hX2
  have hsz : w0.drew.heap.size = X + 2 := hs0
  clear hX1 hX2 hs0
  generalize w0.drew = y0 at hHeld hY hsz HK ⊢
  refine wpAnyH_take (i := 0) (v := ?_) rfl (by kernel_rfl) (by kernel_rfl) (by kernel_rfl) (fun _ _ _ h => h) (Or.inl ⟨by rfl, ?_⟩) (by assumption) ?_
  rotate_left
  · intro w hSw
    try dsimp only at hSw
    go_simp
    try with_reducible rfl
  try simp only [Act.put, List.getElem_toArray, List.getElem_cons_zero, List.getElem_cons_succ, List.setIfInBounds_toArray, List.set_cons_zero, List.set_cons_succ]
  refine wpAnyH_take (i := 1) (v := .int .i64 ki) rfl (by kernel_rfl) (by kernel_rfl) (by kernel_rfl) (fun _ _ _ h => h) (Or.inl ⟨by rfl, ?_⟩) (by assumption) ?_
  · intro w hSw
    have hc := cell_of hSw 0 (v := .int .i64 ki) rfl
    go_simp
    try with_reducible rfl
  try simp only [Act.put, List.getElem_toArray, List.getElem_cons_zero, List.getElem_cons_succ, List.setIfInBounds_toArray, List.set_cons_zero, List.set_cons_succ]
  refine wpAnyH_take (i := 2) (v := ?_) rfl (by kernel_rfl) (by kernel_rfl) (by kernel_rfl) (fun _ _ _ h => h) (Or.inl ⟨by rfl, ?_⟩) (by assumption) ?_
  rotate_left
  · intro w hSw
    try dsimp only at hSw
    go_simp
    try with_reducible rfl
  try simp only [Act.put, List.getElem_toArray, List.getElem_cons_zero, List.getElem_cons_succ, List.setIfInBounds_toArray, List.set_cons_zero, List.set_cons_succ]
  refine wpAnyH_take (i := 3) (v := .int .i64 fr) rfl (by kernel_rfl) (by kernel_rfl) (by kernel_rfl) (fun _ _ _ h => h) (Or.inl ⟨by rfl, ?_⟩) (by assumption) ?_
  · intro w hSw
    have hc := cell_of hSw 1 (v := .int .i64 fr) rfl
    go_simp
    try with_reducible rfl
  try simp only [Act.put, List.getElem_toArray, List.getElem_cons_zero, List.getElem_cons_succ, List.setIfInBounds_toArray, List.set_cons_zero, List.set_cons_succ]
  refine wpAnyH_take (i := 4) (v := ?_) rfl (by kernel_rfl) (by kernel_rfl) (by kernel_rfl) (fun _ _ _ h => h) (Or.inl ⟨by rfl, ?_⟩) (by assumption) ?_
  rotate_left
  · intro w hSw
    try dsimp only at hSw
    go_simp
    try with_reducible rfl
  try simp only [Act.put, List.getElem_toArray, List.getElem_cons_zero, List.getElem_cons_succ, List.setIfInBounds_toArray, List.set_cons_zero, List.set_cons_succ]
  refine wpAnyH_take (i := 5) (v := .int .i64 mo) rfl (by kernel_rfl) (by kernel_rfl) (by kernel_rfl) (fun _ _ _ h => h) (Or.inl ⟨by rfl, ?_⟩) (by assumption) ?_
  · intro w hSw
    have hc := cell_of hSw 2 (v := .int .i64 mo) rfl
    go_simp
    try with_reducible rfl
  try simp only [Act.put, List.getElem_toArray, List.getElem_cons_zero, List.getElem_cons_succ, List.setIfInBounds_toArray, List.set_cons_zero, List.set_cons_succ]
  refine wpAnyH_take (i := 7) (v := ?_) rfl (by kernel_rfl) (by kernel_rfl) (by kernel_rfl) (fun _ _ _ h => h) (Or.inl ⟨by rfl, ?_⟩) (by assumption) ?_
  rotate_left
  · intro w hSw
    try dsimp only at hSw
    go_simp
    try with_reducible rfl
  try simp only [Act.put, List.getElem_toArray, List.getElem_cons_zero, List.getElem_cons_succ, List.setIfInBounds_toArray, List.set_cons_zero, List.set_cons_succ]
  refine wpAnyH_take (i := 8) (v := .slice a n c) rfl (by kernel_rfl) (by kernel_rfl) (by kernel_rfl) (fun _ _ _ h => h) (Or.inl ⟨by rfl, ?_⟩) (by assumption) ?_
  · intro w hSw
    have hc := cell_of hSw 3 (v := .slice a n c) rfl
    go_simp
    try with_reducible rfl
  try simp only [Act.put, List.getElem_toArray, List.getElem_cons_zero, List.getElem_cons_succ, List.setIfInBounds_toArray, List.set_cons_zero, List.set_cons_succ]
  refine wpAnyH_ready (rs := [6]) (by kernel_rfl) (by simp) ?_
  refine AllReadyH.cons rfl (fun K hK => ?_) AllReadyH.nil
  go_simp
  refine hK.out _ _ (heap_old _ hHeld) (fun hHeld => ?_)
  clear hK K
  try simp only [Act.put, List.getElem_toArray, List.getElem_cons_zero, List.getElem_cons_succ, List.setIfInBounds_toArray, List.set_cons_zero, List.set_cons_succ]
  have hL := heap_new y0 (.cells #[] 5)
  have hk1 := HK.out.alloc (.cells #[] 5)
  have hY1 := heap_old (.cells #[] 5) hY
  rw [hsz] at hL
  have hsz1 : (y0.alloc (.cells #[] 5)).heap.size = X + 3 := by simp [hsz]
  generalize y0.alloc (.cells #[] 5) = y1 at hL hk1 hY1 hsz1 hHeld ⊢
  clear HK hY hsz
  refine wpAnyH_ready (rs := [9]) (by kernel_rfl) (by simp) ?_
  refine AllReadyH.cons rfl (fun K hK => ?_) AllReadyH.nil
  refine step_app_any (by rfl) _ _ 30 (by rfl) (X + 2) 5 info5 Try.underlying30 rfl (by decide) (by rfl) (Owns.lit hL (by omega)) (b := a) (m := n) (c := c) (news := bytes dl) (by rfl) (by rw [bytes_length, HN.out]; omega) ((HR.out.no hk1).news) (one_bytes dl) (by have := HM.out; rw [← HN.out] at this; unfold maxLen; omega) (by have := HM.out; rw [← HN.out] at this; omega) (by omega) ?_
  intro na nc y2 ho2 hk2 _
  rw [Nat.zero_add, List.nil_append] at ho2
  have hk2' : Kp (fun j => j = X + 2) y1 y2 := hk2.mono (fun j _ h => Option.some.inj h)
  refine hK.out _ _ (hk2'.heap hHeld (by omega)) (fun hHeld2 => ?_)
  clear hK K
  try simp only [Act.put, List.getElem_toArray, List.getElem_cons_zero, List.getElem_cons_succ, List.setIfInBounds_toArray, List.set_cons_zero, List.set_cons_succ]
  rw [Nat.zero_add]
  have hY2 := hk2'.heap hY1 (by omega)
  have hkw := hk1.andThen hk2' (fun j hj (e : j = X + 2) => by have := HX.out; omega)
  refine wpAnyH_take (i := 10) (v := .agg #[.int .i64 ki, .int .i64 fr, .int .i64 mo, .slice na n nc]) rfl (by kernel_rfl) (by kernel_rfl) (by kernel_rfl) (fun _ _ _ h => h) (Or.inl ⟨by rfl, ?_⟩) (by assumption) ?_
  · intro w hSw
    go_simp
    try with_reducible rfl
  try simp only [Act.put, List.getElem_toArray, List.getElem_cons_zero, List.getElem_cons_succ, List.setIfInBounds_toArray, List.set_cons_zero, List.set_cons_succ]
  refine wpAnyH_ready (rs := [11]) (by kernel_rfl) (by simp) ?_
  refine AllReadyH.cons rfl (fun K hK => ?_) AllReadyH.nil
  refine wp_store_row 32 _ _ rfl (X + 1) #[.int .i64 ki, .int .i64 fr, .int .i64 mo, .slice na n nc] rfl rfl 32 _ hY2 (by kernel_rfl) rfl (by simp [Value.oneCell']) ?_
  refine hK.out _ _ ((setRow_other _ _ _ _ (by omega)).trans hHeld2) (fun hHeld3 => ?_)
  clear hK K
  try simp only [Act.put, List.getElem_toArray, List.getElem_cons_zero, List.getElem_cons_succ, List.setIfInBounds_toArray, List.set_cons_zero, List.set_cons_succ]
  refine wpAnyH_done (by kernel_rfl) ?_ _
  go_wp2
  have hk7 : Kp (fun j => j = X + 1) y2 (y2.setRow (X + 1) #[.int .i64 ki, .int .i64 fr, .int .i64 mo, .slice na n nc]) := (Kp.refl (fun j => j = X + 1) _).setRow (Or.inl rfl) _
  refine bodyPost_ret (v := .agg #[.int .i64 ki, .int .i64 fr, .int .i64 mo, .slice na n nc]) (results_cell_row Try.results21 _ _ (X + 1) 32 _ (0, 0) _ rfl (setRow_heap _ _ _ _ _ _ hY2) Try.underlying32 rfl (by kernel_rfl)) rfl ⟨na, nc, rfl, ?_, ?_⟩
  · exact Owns.base (ho2.kp hk7 (fun g hg (e : g = X + 1) => by have := (ho2.from hg).1; omega)) (by have := HX.out; omega)
  · exact hkw.andThen hk7 (fun i hi (e : i = X + 1) => by have := HX.out; omega)
end Go.Proofs.Ytjhefbkigmamfaa
