/-
  machine.Save, walked once; what Restore leaves.
-/
import Derived.Test.YtecohkoekifeiaaGreatDoorXk
set_option linter.all false
namespace Go.Proofs.YtecohkoekifeiaaGreatDoor
open Go.ChangeShapes Go.WideShapes Go.ChangeAt Go.RowKit
set_option linter.unusedVariables false
set_option linter.unusedSimpArgs false

/-- A machine in memory. -/
structure Mach (w : World) (b mm a s : Nat) (l : List Se) (o : Option Addr) (c : Nat) (rs : List Pt) : Prop where
  blk : w.heap[b]? = some (.cells (machV 100 a s o rs.length c mm) 89 (0, 0))
  map : w.heap[mm]? = some (.map (mapEs l).toArray l.length)
  ses : ∀ e ∈ l, w.heap[e.b]? = some (.cells #[.int .i64 e.s, .int .i64 e.n, .int .i64 e.l] 92 (0, 0))
  pts : Pts w o rs
/-- Its numbers are small. -/
structure Small (a s : Nat) (l : List Se) (rs : List Pt) : Prop where
  ids : (l.map Se.id).Pairwise (· < ·)
  sok : ∀ e ∈ l, e.id < 1099511627776 ∧ e.s < 1099511627776 ∧ e.n < 1099511627776 ∧ e.l < 1099511627776
  few : l.length ≤ 16
  ab : a < 1099511627776
  sb : s + rs.length < 1099511627776
  rl : rs.length ≤ 16777216
  each : ∀ r ∈ rs, r.d.length ≤ 1024
theorem Mach.no {w w' : World} {b mm a s c : Nat} {l : List Se} {o : Option Addr} {rs : List Pt} (h : Mach w b mm a s l o c rs) (k : Kp (fun _ => False) w w') : Mach w' b mm a s l o c rs :=
  ⟨k.heap h.blk (fun h => h), k.heap h.map (fun h => h), fun e he => k.heap (h.ses e he) (fun h => h), h.pts.no k⟩
/-- A session's bytes. -/
def seB (l : List Se) : List Int := l.flatMap fun e => nby [e.id, e.s, e.n, e.l]
def rcB (l : List Pt) : List Int := l.flatMap fun r => encB r.d
def saveB (a s : Nat) (l : List Se) (rs : List Pt) : List Int := nby [a, s, s + rs.length, l.length] ++ seB l ++ rcB rs
theorem four_len {a b c d : Nat} (h : a < 281474976710656 ∧ b < 281474976710656 ∧ c < 281474976710656 ∧ d < 281474976710656) : (nby [a, b, c, d]).length ≤ 36 := by
  refine nby_len (l := [a, b, c, d]) (fun y hy => ?_)
  simp only [List.mem_cons, List.not_mem_nil, or_false] at hy
  rcases hy with rfl | rfl | rfl | rfl
  · exact h.1
  · exact h.2.1
  · exact h.2.2.1
  · exact h.2.2.2
theorem four_pos {a b c d : Nat} : 0 < (nby [a, b, c, d]).length := by simp [nby, enc]
theorem seB_len : ∀ {l : List Se}, (∀ e ∈ l, e.id < 1099511627776 ∧ e.s < 1099511627776 ∧ e.n < 1099511627776 ∧ e.l < 1099511627776) → (seB l).length ≤ 36 * l.length
  | [], _ => by simp [seB]
  | e :: r, h => by
    have h1 := h e (by simp)
    have h2 := four_len (a := e.id) (b := e.s) (c := e.n) (d := e.l) (by omega)
    have h3 := seB_len (l := r) (fun y hy => h y (by simp [hy]))
    simp only [seB, List.flatMap_cons, List.length_append, List.length_cons] at h3 ⊢
    omega
theorem rcB_len : ∀ {l : List Pt}, (∀ r ∈ l, r.d.length ≤ 1024) → (rcB l).length ≤ 1033 * l.length
  | [], _ => by simp [rcB]
  | e :: r, h => by
    have h1 := h e (by simp)
    have h2 := encB_len (b := e.d) (by omega)
    have h3 := rcB_len (l := r) (fun y hy => h y (by simp [hy]))
    simp only [rcB, List.flatMap_cons, List.length_append, List.length_cons] at h3 ⊢
    omega
theorem own_ne {V : World} {B B' : Nat} {e e' : TypeId} {z z' : Nat} {a a' : Option Addr} {n n' c c' : Nat} {xs xs' : List Value} (hee : e ≠ e') (h : Owns V B e z a n c xs) (h' : Owns V B' e' z' a' n' c' xs') : ∀ g, blockOf a = some g → ¬ (some g = blockOf a') := by
  intro g hg hg'
  obtain ⟨_, h1⟩ := h.cells_at hg
  obtain ⟨_, h2⟩ := h'.cells_at hg'.symm
  rw [h1] at h2
  cases h2
  exact hee rfl
theorem len_map {w : World} {mm : Nat} {l : List Se} (h : w.heap[mm]? = some (.map (mapEs l).toArray l.length)) : (Builtin.len_ #[87] 3 #[.map (some mm)]).run Tryz.prog w = .ok (.int .i64 (l.length : Nat)) w := by
  rw [run_len_map (P := Tryz.prog) w 87 3 mm (mapEs l).toArray l.length (by kernel_rfl) h]
  simp [goInt, mapEs]
theorem Row.new {w : World} {cs : Array Value} {t : TypeId} : Row (w.alloc (.cells cs t)) (some ⟨w.heap.size, 0, none⟩) cs.toList := fun i v hv => ⟨_, _, rfl, cell_of (heap_new w _) (0 + i) (by simpa using hv)⟩

set_option maxRecDepth 100000 in
set_option maxHeartbeats 4000000 in
theorem mSave_any {w : World} {b mm a s c : Nat} {l : List Se} {o : Option Addr} {rs : List Pt} (h : Mach w b mm a s l o c rs) (hs : Small a s l rs) :
    Calls Tryz.prog 17 #[.pointer (some ⟨b, 0, none⟩)] w fun e w' => ∃ o' co, e = .returned (.slice o' (saveB a s l rs).length co) ∧ Owns w' w.heap.size 5 1 o' (saveB a s l rs).length co (bytes (saveB a s l rs)) ∧ Kp (fun _ => False) w w' := by
  have HM := Lib.hid h
  have HS := Lib.hid hs
  have HN := Lib.hid (mnone_any (cell_of h.blk 4 (v := .map (some mm)) rfl))
  obtain ⟨t, ht⟩ : ∃ t, t = s + rs.length := ⟨_, rfl⟩
  have htl : t < 1099511627776 := by rw [ht]; exact hs.sb
  have HX := Lib.hid (fun (u : World) (hu : Kp (fun _ => False) w u) => mNext_any (w := u) (hu.heap h.blk (fun h => h)) (by have := hs.sb; omega) hs.rl)
  unfold saveB
  rw [← ht] at HX ⊢
  have hl16 := hs.few
  have hab := hs.ab
  have hsb : s < 1099511627776 := by omega
  have HT := Lib.hid (⟨hab, hsb, htl, hl16, ht⟩ : a < 1099511627776 ∧ s < 1099511627776 ∧ t < 1099511627776 ∧ l.length ≤ 16 ∧ t = s + rs.length)
  have hb1 := h.blk
  have hb2 := h.map
  clear h hs ht htl hab hsb hl16
  go_enter Tryz.func17, Tryz.ntmps17
  go_wp2_with (go_at_call 39; refine (HN.out).mono ?_; rintro e w1 ⟨rfl, hw1⟩; subst w1)
  refine wp_region_held_drew (S := fun w' => w'.heap[b]? = some (.cells (machV 100 a s o rs.length c mm) 89 (0, 0)) ∧ w'.heap[mm]? = some (.map (mapEs l).toArray l.length)) (by kernel_rfl) ⟨hb1, hb2⟩ (fun hHeld => ?_)
  have HK0 := Lib.hid ((Kp.refl (fun _ => False) w).drew)
  clear hb1 hb2
  generalize w.drew = y0 at hHeld HK0 ⊢
  refine tk 0 (v := ?_) rfl ?_ (by assumption) ?_
  rotate_left
  · intro w hSw
    go_simp
    try with_reducible rfl
  try simp only [Act.put, List.getElem_toArray, List.getElem_cons_zero, List.getElem_cons_succ, List.setIfInBounds_toArray, List.set_cons_zero, List.set_cons_succ]
  refine tk 1 (v := ?_) rfl ?_ (by assumption) ?_
  rotate_left
  · intro w hSw
    go_simp
    try with_reducible rfl
  try simp only [Act.put, List.getElem_toArray, List.getElem_cons_zero, List.getElem_cons_succ, List.setIfInBounds_toArray, List.set_cons_zero, List.set_cons_succ]
  refine tk 2 (v := ?_) rfl ?_ (by assumption) ?_
  rotate_left
  · intro w hSw
    go_simp
    try with_reducible rfl
  try simp only [Act.put, List.getElem_toArray, List.getElem_cons_zero, List.getElem_cons_succ, List.setIfInBounds_toArray, List.set_cons_zero, List.set_cons_succ]
  refine tk 3 (v := .int .i64 a) rfl ?_ (by assumption) ?_
  · intro w hSw
    have hc := cell_of hSw.1 1 (v := .int .i64 a) rfl
    go_simp
    try with_reducible rfl
  try simp only [Act.put, List.getElem_toArray, List.getElem_cons_zero, List.getElem_cons_succ, List.setIfInBounds_toArray, List.set_cons_zero, List.set_cons_succ]
  refine tk 4 (v := ?_) rfl ?_ (by assumption) ?_
  rotate_left
  · intro w hSw
    go_simp
    try with_reducible rfl
  try simp only [Act.put, List.getElem_toArray, List.getElem_cons_zero, List.getElem_cons_succ, List.setIfInBounds_toArray, List.set_cons_zero, List.set_cons_succ]
  refine tk 5 (v := ?_) rfl ?_ (by assumption) ?_
  rotate_left
  · intro w hSw
    go_simp
    try with_reducible rfl
  try simp only [Act.put, List.getElem_toArray, List.getElem_cons_zero, List.getElem_cons_succ, List.setIfInBounds_toArray, List.set_cons_zero, List.set_cons_succ]
  refine tk 6 (v := ?_) rfl ?_ (by assumption) ?_
  rotate_left
  · intro w hSw
    go_simp
    try with_reducible rfl
  try simp only [Act.put, List.getElem_toArray, List.getElem_cons_zero, List.getElem_cons_succ, List.setIfInBounds_toArray, List.set_cons_zero, List.set_cons_succ]
  refine tk 7 (v := .int .i64 s) rfl ?_ (by assumption) ?_
  · intro w hSw
    have hc := cell_of hSw.1 2 (v := .int .i64 s) rfl
    go_simp
    try with_reducible rfl
  try simp only [Act.put, List.getElem_toArray, List.getElem_cons_zero, List.getElem_cons_succ, List.setIfInBounds_toArray, List.set_cons_zero, List.set_cons_succ]
  refine tk 8 (v := ?_) rfl ?_ (by assumption) ?_
  rotate_left
  · intro w hSw
    go_simp
    try with_reducible rfl
  try simp only [Act.put, List.getElem_toArray, List.getElem_cons_zero, List.getElem_cons_succ, List.setIfInBounds_toArray, List.set_cons_zero, List.set_cons_succ]
  refine tk 10 (v := ?_) rfl ?_ (by assumption) ?_
  rotate_left
  · intro w hSw
    go_simp
    try with_reducible rfl
  try simp only [Act.put, List.getElem_toArray, List.getElem_cons_zero, List.getElem_cons_succ, List.setIfInBounds_toArray, List.set_cons_zero, List.set_cons_succ]
  refine tk 11 (v := ?_) rfl ?_ (by assumption) ?_
  rotate_left
  · intro w hSw
    go_simp
    try with_reducible rfl
  try simp only [Act.put, List.getElem_toArray, List.getElem_cons_zero, List.getElem_cons_succ, List.setIfInBounds_toArray, List.set_cons_zero, List.set_cons_succ]
  refine tk 12 (v := ?_) rfl ?_ (by assumption) ?_
  rotate_left
  · intro w hSw
    go_simp
    try with_reducible rfl
  try simp only [Act.put, List.getElem_toArray, List.getElem_cons_zero, List.getElem_cons_succ, List.setIfInBounds_toArray, List.set_cons_zero, List.set_cons_succ]
  refine tk 13 (v := .map (some mm)) rfl ?_ (by assumption) ?_
  · intro w hSw
    have hc := cell_of hSw.1 4 (v := .map (some mm)) rfl
    go_simp
    try with_reducible rfl
  try simp only [Act.put, List.getElem_toArray, List.getElem_cons_zero, List.getElem_cons_succ, List.setIfInBounds_toArray, List.set_cons_zero, List.set_cons_succ]
  refine rdy 9 (by kernel_rfl) rfl (fun K hK => ?_)
  go_simp
  refine (HX.out y0 HK0.out).mono ?_
  rintro e y1 ⟨rfl, hk1⟩
  refine hK.out _ _ ⟨hk1.heap hHeld.1 (fun h => h), hk1.heap hHeld.2 (fun h => h)⟩ (fun hHeld => ?_)
  have HK1 := Lib.hid (HK0.out.trans hk1)
  clear hk1 HK0
  clear hK K
  try simp only [Act.put, List.getElem_toArray, List.getElem_cons_zero, List.getElem_cons_succ, List.setIfInBounds_toArray, List.set_cons_zero, List.set_cons_succ]
  refine tk 14 (v := .int .i64 l.length) rfl ?_ (by assumption) ?_
  · intro w hSw
    have hc := len_map hSw.2
    go_simp
    try with_reducible rfl
  try simp only [Act.put, List.getElem_toArray, List.getElem_cons_zero, List.getElem_cons_succ, List.setIfInBounds_toArray, List.set_cons_zero, List.set_cons_succ]
  refine rdy 15 (by kernel_rfl) rfl (fun K hK => ?_)
  go_simp
  refine hK.out _ _ ⟨heap_old _ hHeld.1, heap_old _ hHeld.2⟩ (fun hHeld => ?_)
  clear hK K
  try simp only [Act.put, List.getElem_toArray, List.getElem_cons_zero, List.getElem_cons_succ, List.setIfInBounds_toArray, List.set_cons_zero, List.set_cons_succ]
  refine rdy 16 (by kernel_rfl) rfl (fun K hK => ?_)
  go_simp
  refine Calls.mono (mnumbers_any (zs := [a, s, t, l.length]) Row.new (fun z hz => ?_) (by simp) 4) ?_
  · have := HT.out
    simp only [List.mem_cons, List.not_mem_nil, or_false] at hz
    rcases hz with rfl | rfl | rfl | rfl <;> omega
  rintro e y2 ⟨o2, co2, rfl, ho2, hk2⟩
  refine hK.out _ _ ⟨hk2.heap hHeld.1 (fun h => h), hk2.heap hHeld.2 (fun h => h)⟩ (fun hHeld => ?_)
  clear hK K
  try simp only [Act.put, List.getElem_toArray, List.getElem_cons_zero, List.getElem_cons_succ, List.setIfInBounds_toArray, List.set_cons_zero, List.set_cons_succ]
  refine tk 17 (v := ?_) rfl ?_ (by assumption) ?_
  rotate_left
  · intro w hSw
    go_simp
    try with_reducible rfl
  try simp only [Act.put, List.getElem_toArray, List.getElem_cons_zero, List.getElem_cons_succ, List.setIfInBounds_toArray, List.set_cons_zero, List.set_cons_succ]
  refine wpAnyH_done (by kernel_rfl) ?_ _
  have hk := (HK1.out.alloc (.cells #[Value.int IntKind.i64 ↑a, Value.int IntKind.i64 ↑s, Value.int IntKind.i64 ↑t, Value.int IntKind.i64 ↑l.length] 3)).trans hk2
  have hm := HM.out.no hk
  have HO2 := Lib.hid (ho2.low (B' := w.heap.size) (by have := HK1.out.size; simp; omega))
  have hAl : (nby [a, s, t, l.length]).length ≤ 36 := four_len (by have := HT.out; omega)
  have HSE := Lib.hid (sess_rows (cell_of hm.blk 4 (v := .map (some mm)) rfl) hm.map HS.out.ids (fun e he => by have := HS.out.sok e he; omega) (by have := HS.out.few; omega))
  have HMY := Lib.hid hm
  have HKY := Lib.hid hk
  have HAL := Lib.hid hAl
  clear hHeld HK1 ho2 hk2 hk hm hAl HX HN
  generalize hA0 : nby [a, s, t, l.length] = A at HO2 HAL
  have HA0 := Lib.hid hA0
  clear hA0
  go_wp2_with (go_at_call 42; refine Stop.mk ?_)
  unfold Stop
  refine (HSE.out).mono ?_
  rintro e w5 ⟨o5, co5, rfl, hrow, hk5⟩
  have HR5 := Lib.hid (hrow.low (B' := w.heap.size) HKY.out.size)
  have HO5 := Lib.hid (HO2.out.kp hk5 (fun _ _ h => h))
  have HK5 := Lib.hid (HKY.out.trans hk5)
  clear hrow hk5 HMY HO2 HKY HSE
  go_wp2_with fail
  go_loopw [3, 33] (fun z i wr => ∃ (k : Nat) (oa : Option Addr) (co : Nat) (Z : List Int), i = .int .i64 k ∧ k ≤ l.length ∧ z = .slice oa Z.length co ∧ Z = A ++ seB (l.take k) ∧ Owns wr w.heap.size 5 1 oa Z.length co (bytes Z) ∧ Owns wr w.heap.size 3 1 o5 l.length co5 (ints (l.map fun e => (e.id : Int))) ∧ Kp (fun j => w.heap.size ≤ j) w wr) (fun _ i _ => l.length - (intOf i).toNat)
  case atStart => exact ⟨0, o2, co2, A, rfl, Nat.zero_le _, rfl, by simp [seB], HO5.out, HR5.out, HK5.out.no⟩
  case round =>
    clear HO5 HR5 HK5
    obtain ⟨k, oa, co, Z, rfl, hk, rfl, hZ, ho, hr5, hK⟩ := hrel
    have HO := Lib.hid ho
    have HK := Lib.hid hK
    have HZ := Lib.hid hZ
    have HR := Lib.hid hr5
    by_cases hlt : k < l.length
    · obtain ⟨e, hek⟩ : ∃ e, l[k]? = some e := ⟨l[k], List.getElem?_eq_getElem hlt⟩
      have hem := List.mem_of_getElem? hek
      obtain ⟨bb, off, rfl, hc⟩ : ∃ bb off, o5 = some ⟨bb, off, none⟩ ∧ wr.cell? ⟨bb, off + k, none⟩ = some (.int .i64 (e.id : Int)) := hr5.row k _ (by simp [ints, hek])
      have hbr := hK.heap HM.out.blk (by have := lt_of_block HM.out.blk; omega)
      have hmr := hK.heap HM.out.map (by have := lt_of_block HM.out.map; omega)
      have her := hK.heap (HM.out.ses e hem) (by have := lt_of_block (HM.out.ses e hem); omega)
      have c4 := cell_of hbr 4 (v := .map (some mm)) rfl
      have hlk := run_lookup_hit (w := wr) (z := (e.id : Int)) hmr (j := k) (e := ⟨.int .i64 (e.id : Int), .pointer (some ⟨e.b, 0, none⟩), k⟩) (by simpa using mapEs_at hek) rfl (fun p hp e' he' => by
        obtain ⟨e2, he2⟩ : ∃ e2, l[p]? = some e2 := ⟨l[p]'(by omega), List.getElem?_eq_getElem (by omega)⟩
        rw [List.toList_toArray, mapEs_at he2] at he'
        cases he'
        refine ⟨_, rfl, ?_⟩
        have hi := HS.out.ids
        rw [List.pairwise_iff_getElem] at hi
        have := hi p k (by simpa using (by omega : p < l.length)) (by simpa using hlt) hp
        rw [List.getElem?_eq_some_iff] at he2 hek
        obtain ⟨_, e3⟩ := he2
        obtain ⟨_, e4⟩ := hek
        simp only [List.getElem_map, e3, e4] at this
        omega)
      have hse := HS.out.sok e hem
      have hZn : Z ++ nby [e.id, e.s, e.n, e.l] = A ++ seB (l.take (k + 1)) := by
        rw [hZ, List.take_add_one, hek]
        simp [seB]
      have hZl : Z.length ≤ 36 + 36 * 16 := by
        have h1 := seB_len (l := l.take k) (fun y hy => HS.out.sok y (List.mem_of_mem_take hy))
        have h2 := HAL.out
        have h3 := HS.out.few
        rw [List.length_take] at h1
        rw [hZ, List.length_append]
        omega
      have HZN := Lib.hid hZn
      have HZL := Lib.hid hZl
      obtain ⟨ei, eb, es, en, el⟩ := e
      dsimp only at hlk hc her hse HZN
      have HSE := Lib.hid hse
      have HBR := Lib.hid hbr
      clear hZ ho hr5 hK hek hem hbr hmr hse hZn hZl
      have hkI : (k : Int) < (l.length : Int) := by omega
      have hk0 : (0 : Int) ≤ (k : Int) := by omega
      go_wp2_with fail
      refine wp_region_held_drew (S := fun w' => w'.heap[eb]? = some (.cells #[.int .i64 es, .int .i64 en, .int .i64 el] 92 (0, 0))) (by kernel_rfl) her (fun hHeld => ?_)
      have HO0 := Lib.hid (show Owns wr.drew w.heap.size 5 1 oa Z.length co (bytes Z) from HO.out)
      have HR0 := Lib.hid (show Owns wr.drew w.heap.size 3 1 (some ⟨bb, off, none⟩) l.length co5 (ints (l.map fun e => (e.id : Int))) from HR.out)
      have HK0 := Lib.hid (HK.out.drew)
      clear her hlk hc c4 HO HR HK HBR
      generalize wr.drew = y0 at hHeld HO0 HR0 HK0 ⊢
      refine tk 0 (v := ?_) rfl ?_ (by assumption) ?_
      rotate_left
      · intro w hSw
        go_simp
        try with_reducible rfl
      try simp only [Act.put, List.getElem_toArray, List.getElem_cons_zero, List.getElem_cons_succ, List.setIfInBounds_toArray, List.set_cons_zero, List.set_cons_succ]
      refine tk 1 (v := ?_) rfl ?_ (by assumption) ?_
      rotate_left
      · intro w hSw
        go_simp
        try with_reducible rfl
      try simp only [Act.put, List.getElem_toArray, List.getElem_cons_zero, List.getElem_cons_succ, List.setIfInBounds_toArray, List.set_cons_zero, List.set_cons_succ]
      refine tk 2 (v := ?_) rfl ?_ (by assumption) ?_
      rotate_left
      · intro w hSw
        go_simp
        try with_reducible rfl
      try simp only [Act.put, List.getElem_toArray, List.getElem_cons_zero, List.getElem_cons_succ, List.setIfInBounds_toArray, List.set_cons_zero, List.set_cons_succ]
      refine tk 3 (v := ?_) rfl ?_ (by assumption) ?_
      rotate_left
      · intro w hSw
        go_simp
        try with_reducible rfl
      try simp only [Act.put, List.getElem_toArray, List.getElem_cons_zero, List.getElem_cons_succ, List.setIfInBounds_toArray, List.set_cons_zero, List.set_cons_succ]
      refine tk 4 (v := ?_) rfl ?_ (by assumption) ?_
      rotate_left
      · intro w hSw
        go_simp
        try with_reducible rfl
      try simp only [Act.put, List.getElem_toArray, List.getElem_cons_zero, List.getElem_cons_succ, List.setIfInBounds_toArray, List.set_cons_zero, List.set_cons_succ]
      refine tk 5 (v := .int .i64 es) rfl ?_ (by assumption) ?_
      · intro w hSw
        have hc := cell_of hSw 0 (v := .int .i64 es) rfl
        go_simp
        try with_reducible rfl
      try simp only [Act.put, List.getElem_toArray, List.getElem_cons_zero, List.getElem_cons_succ, List.setIfInBounds_toArray, List.set_cons_zero, List.set_cons_succ]
      refine tk 6 (v := ?_) rfl ?_ (by assumption) ?_
      rotate_left
      · intro w hSw
        go_simp
        try with_reducible rfl
      try simp only [Act.put, List.getElem_toArray, List.getElem_cons_zero, List.getElem_cons_succ, List.setIfInBounds_toArray, List.set_cons_zero, List.set_cons_succ]
      refine tk 7 (v := ?_) rfl ?_ (by assumption) ?_
      rotate_left
      · intro w hSw
        go_simp
        try with_reducible rfl
      try simp only [Act.put, List.getElem_toArray, List.getElem_cons_zero, List.getElem_cons_succ, List.setIfInBounds_toArray, List.set_cons_zero, List.set_cons_succ]
      refine tk 8 (v := ?_) rfl ?_ (by assumption) ?_
      rotate_left
      · intro w hSw
        go_simp
        try with_reducible rfl
      try simp only [Act.put, List.getElem_toArray, List.getElem_cons_zero, List.getElem_cons_succ, List.setIfInBounds_toArray, List.set_cons_zero, List.set_cons_succ]
      refine tk 9 (v := .int .i64 en) rfl ?_ (by assumption) ?_
      · intro w hSw
        have hc := cell_of hSw 1 (v := .int .i64 en) rfl
        go_simp
        try with_reducible rfl
      try simp only [Act.put, List.getElem_toArray, List.getElem_cons_zero, List.getElem_cons_succ, List.setIfInBounds_toArray, List.set_cons_zero, List.set_cons_succ]
      refine tk 10 (v := ?_) rfl ?_ (by assumption) ?_
      rotate_left
      · intro w hSw
        go_simp
        try with_reducible rfl
      try simp only [Act.put, List.getElem_toArray, List.getElem_cons_zero, List.getElem_cons_succ, List.setIfInBounds_toArray, List.set_cons_zero, List.set_cons_succ]
      refine tk 11 (v := ?_) rfl ?_ (by assumption) ?_
      rotate_left
      · intro w hSw
        go_simp
        try with_reducible rfl
      try simp only [Act.put, List.getElem_toArray, List.getElem_cons_zero, List.getElem_cons_succ, List.setIfInBounds_toArray, List.set_cons_zero, List.set_cons_succ]
      refine tk 12 (v := ?_) rfl ?_ (by assumption) ?_
      rotate_left
      · intro w hSw
        go_simp
        try with_reducible rfl
      try simp only [Act.put, List.getElem_toArray, List.getElem_cons_zero, List.getElem_cons_succ, List.setIfInBounds_toArray, List.set_cons_zero, List.set_cons_succ]
      refine tk 13 (v := .int .i64 el) rfl ?_ (by assumption) ?_
      · intro w hSw
        have hc := cell_of hSw 2 (v := .int .i64 el) rfl
        go_simp
        try with_reducible rfl
      try simp only [Act.put, List.getElem_toArray, List.getElem_cons_zero, List.getElem_cons_succ, List.setIfInBounds_toArray, List.set_cons_zero, List.set_cons_succ]
      refine rdy 14 (by kernel_rfl) rfl (fun K hK => ?_)
      go_simp
      refine hK.out _ _ (heap_old _ hHeld) (fun hHeld => ?_)
      clear hK K
      try simp only [Act.put, List.getElem_toArray, List.getElem_cons_zero, List.getElem_cons_succ, List.setIfInBounds_toArray, List.set_cons_zero, List.set_cons_succ]
      refine rdy 15 (by kernel_rfl) rfl (fun K hK => ?_)
      go_simp
      refine Calls.mono (mnumbers_any (zs := [ei, es, en, el]) Row.new (fun z hz => ?_) (by simp) 4) ?_
      · have := HSE.out
        simp only [List.mem_cons, List.not_mem_nil, or_false] at hz
        rcases hz with rfl | rfl | rfl | rfl <;> omega
      rintro e y1 ⟨o1, co1, rfl, ho1, hk1⟩
      have hk01 := ((Kp.refl (fun _ => False) y0).alloc (.cells #[Value.int IntKind.i64 ↑ei, Value.int IntKind.i64 ↑es, Value.int IntKind.i64 ↑en, Value.int IntKind.i64 ↑el] 3)).trans hk1
      refine hK.out _ _ (hk1.heap hHeld (fun h => h)) (fun hHeld => ?_)
      have hpos := four_pos (a := ei) (b := es) (c := en) (d := el)
      have hE36 := four_len (a := ei) (b := es) (c := en) (d := el) (by have := HSE.out; omega)
      have HO1 := Lib.hid ho1
      have HKL := Lib.hid (HK0.out.trans (hk01.no (B := w.heap.size)))
      have HOA := Lib.hid (HO0.out.kp hk01 (fun _ _ h => h))
      have HR1 := Lib.hid (HR0.out.kp hk01 (fun _ _ h => h))
      clear hk01 hk1 ho1 HK0 HO0 HR0
      generalize nby [ei, es, en, el] = E at HO1 HZN hpos hE36 ⊢
      obtain ⟨g1, cur1, rfl, hg1, hgB, hn1, ht1⟩ := HO1.out.blk hpos
      clear hg1 hgB hn1 ht1
      clear hK K
      try simp only [Act.put, List.getElem_toArray, List.getElem_cons_zero, List.getElem_cons_succ, List.setIfInBounds_toArray, List.set_cons_zero, List.set_cons_succ]
      refine rdy 16 (by kernel_rfl) rfl (fun K hK => ?_)
      rw [if_pos (by rfl)]
      refine oper_app _ _ 22 rfl w.heap.size 5 info5 Tryz.underlying22 rfl (by decide) rfl HOA.out rfl (news := bytes E) (by simp [bytes]) (fun j u hu => by obtain ⟨_, q1, q2⟩ := HO1.out.row.news j u hu; cases q1; exact q2) (one_bytes _) (by have := HZL.out; unfold maxLen; omega) (by have := HZL.out; omega) HKL.out.size ?_
      intro a7 c7 y7 ho7 hk7
      have hs7 := Nat.lt_of_lt_of_le (lt_of_block hHeld) hk7.size
      refine hK.out _ _ ?_ (fun hHeld => ?_)
      · refine hk7.heap hHeld (fun e => ?_)
        obtain ⟨_, h1⟩ := HOA.out.cells_at e.symm
        rw [hHeld] at h1
        cases h1
      clear hK K
      try simp only [Act.put, List.getElem_toArray, List.getElem_cons_zero, List.getElem_cons_succ, List.setIfInBounds_toArray, List.set_cons_zero, List.set_cons_succ]
      refine tk 17 (v := ?_) rfl ?_ (by assumption) ?_
      rotate_left
      · intro w hSw
        go_simp
        try with_reducible rfl
      try simp only [Act.put, List.getElem_toArray, List.getElem_cons_zero, List.getElem_cons_succ, List.setIfInBounds_toArray, List.set_cons_zero, List.set_cons_succ]
      refine wpAnyH_done (by kernel_rfl) ?_ _
      have hK7 := HKL.out.andThen hk7 (fun i hi e => by have := (HOA.out.from e.symm).1; omega)
      have hR7 := HR1.out.kp hk7 (own_ne (by decide) HR1.out HOA.out)
      rw [show bytes Z ++ bytes E = bytes (Z ++ E) by simp [bytes], show Z.length + E.length = (Z ++ E).length by simp] at ho7
      rw [show Z.length + E.length = (Z ++ E).length by simp]
      have HK7 := Lib.hid hK7
      have HR7 := Lib.hid hR7
      generalize Z ++ E = ZE at ho7 HZN ⊢
      have HO7 := Lib.hid ho7
      have h16 := HS.out.few
      clear hHeld hs7 ho7 hk7 hK7 hR7 hpos hE36 HKL HOA HR1 HO1
      go_wp2
      go_roundw
      case rel => exact ⟨k + 1, a7, c7, ZE, by go_num, by omega, rfl, HZN.out, HO7.out, HR7.out, HK7.out⟩
      case measure => simp [intOf]; omega
    · obtain rfl : k = l.length := by omega
      have hZ2 : Z = A ++ seB l := by rw [hZ, List.take_length]
      have HZ2 := Lib.hid hZ2
      clear hZ ho hr5 hK hZ2
      have hbr := HK.out.heap HM.out.blk (by have := lt_of_block HM.out.blk; omega)
      have c3 := cell_of hbr 3 (v := .slice o rs.length c) rfl
      clear hbr
      clear HR HZ hlt hk
      go_wp2_with fail
      go_loopw [3, 66] (fun z i wr => ∃ (k : Nat) (oa : Option Addr) (co : Nat) (Z : List Int), i = .int .i64 k ∧ k ≤ rs.length ∧ z = .slice oa Z.length co ∧ Z = A ++ seB l ++ rcB (rs.take k) ∧ Owns wr w.heap.size 5 1 oa Z.length co (bytes Z) ∧ Kp (fun j => w.heap.size ≤ j) w wr) (fun _ i _ => rs.length - (intOf i).toNat)
      case atStart => exact ⟨0, oa, co, Z, rfl, Nat.zero_le _, rfl, by simpa [rcB] using HZ2.out, HO.out, HK.out⟩
      case round =>
        clear HO HK HZ2
        obtain ⟨k, oa, co, Z, rfl, hk, rfl, hZ, ho, hK⟩ := hrel
        have HO := Lib.hid ho
        have HK := Lib.hid hK
        by_cases hlt : k < rs.length
        · obtain ⟨r, hrk⟩ : ∃ r, rs[k]? = some r := ⟨rs[k], List.getElem?_eq_getElem hlt⟩
          have hrm := List.mem_of_getElem? hrk
          obtain ⟨bb, off, rfl, hc⟩ := (HM.out.pts.row.old hK) k r.val (by simp [hrk])
          have hrd := (HM.out.pts.each r hrm).old hK
          have hr1 := HS.out.each r hrm
          have HPB := Lib.hid (putBytes_good hrd (by omega) r.c)
          have hel := encB_len (b := r.d) (by omega)
          have hZn : Z ++ encB r.d = A ++ seB l ++ rcB (rs.take (k + 1)) := by
            rw [hZ, List.take_add_one, hrk]
            simp [rcB]
          have hZl : Z.length ≤ 17331000000 := by
            have h1 := rcB_len (l := rs.take k) (fun y hy => HS.out.each y (List.mem_of_mem_take hy))
            have h2 := seB_len (l := l) HS.out.sok
            have h3 := HS.out.few
            have h4 := HAL.out
            have h5 := HS.out.rl
            rw [List.length_take] at h1
            rw [hZ, List.length_append, List.length_append]
            omega
          have HZN := Lib.hid hZn
          have HZL := Lib.hid hZl
          obtain ⟨ra, rd, rc⟩ := r
          unfold Pt.val at hc
          dsimp only at hc HPB HZN hel hr1
          have hel2 : (encB rd).length ≤ 1033 := by omega
          have HEL := Lib.hid hel2
          have hk24 := HS.out.rl
          have hkI : (k : Int) < (rs.length : Int) := by omega
          have hk0 : (0 : Int) ≤ (k : Int) := by omega
          clear hZ ho hK hrk hrm hrd hr1 hel hel2 hZn hZl
          generalize rd.length = rn at hc HPB
          go_wp2_with (go_at_call 24; refine Stop.mk ?_)
          unfold Stop
          refine (HPB.out).mono ?_
          rintro e w4 ⟨o4, c4, rfl, ho4, hk4⟩
          have HO5 := Lib.hid (HO.out.kp hk4 (fun _ _ h => h))
          have HK4 := Lib.hid (HK.out.trans (hk4.no (B := w.heap.size)))
          have HO4 := Lib.hid ho4
          clear hc ho4 hk4 HO HK HPB
          generalize encB rd = E at HO4 HZN HEL ⊢
          go_wp2_with (at_builtin; refine Stop.mk ?_)
          unfold Stop
          refine wpList_app rfl _ _ 22 rfl w.heap.size 5 info5 Tryz.underlying22 rfl (by decide) rfl HO5.out rfl (news := bytes E) (by simp [bytes]) HO4.out.row.news (one_bytes _) (by have := HZL.out; have := HEL.out; unfold maxLen; omega) (by have := HZL.out; have := HEL.out; omega) HK4.out.size ?_
          intro a6 c6 w6 ho6 hk6
          rw [show bytes Z ++ bytes E = bytes (Z ++ E) by simp [bytes], show Z.length + E.length = (Z ++ E).length by simp] at ho6
          rw [show Z.length + E.length = (Z ++ E).length by simp]
          have hK6 := HK4.out.andThen hk6 (fun i hi e => by have := (HO5.out.from e.symm).1; omega)
          generalize Z ++ E = ZE at ho6 HZN ⊢
          have HO6 := Lib.hid ho6
          have HK6 := Lib.hid hK6
          clear ho6 hk6 hK6 HO5 HK4
          go_wp2
          go_roundw
          case rel => exact ⟨k + 1, a6, c6, ZE, by go_num, by omega, rfl, HZN.out, HO6.out, HK6.out⟩
          case measure => simp [intOf]; omega
        · obtain rfl : k = rs.length := by omega
          have hZ2 : Z = A ++ seB l ++ rcB rs := by rw [hZ, List.take_length]
          have HZ2 := Lib.hid hZ2
          clear hZ ho hK hZ2
          go_wp2_with fail
          go_ret
          have hfin : nby [a, s, t, l.length] ++ seB l ++ rcB rs = Z := by rw [HZ2.out, HA0.out]
          refine ⟨oa, co, by rw [hfin]; rfl, ?_, HK.out.fin⟩
          rw [hfin]
          exact HO.out
end Go.Proofs.YtecohkoekifeiaaGreatDoor
namespace Go.Proofs.YtecohkoekifeiaaGreatDoor
open Go.RowKit Go.Maps Go.Sort Go.Shelf
set_option linter.unusedVariables false
set_option linter.unusedSimpArgs false

theorem Kp.putObj {S : Nat → Prop} {a w : World} (h : Kp S a w) {r : Nat} (hr : S r ∨ a.heap.size ≤ r) (o : Obj) : Kp S a (w.putObj r o) :=
  h.andThen (S' := fun k => k = r) ⟨rfl, rfl, rfl, by simp, fun k _ hn => World.putObj_heap_other hn⟩ fun i hi e => hr.elim (fun h => e ▸ h) (fun h => by omega)

theorem stays_int (z : Int) (w : World) : (Instr.keyThatStays (.int .i64 z) (.int .i64 z)).run Tryz.prog w = .ok (.int .i64 z) w := by
  simp [Instr.keyThatStays, Instr.sameBits]

theorem run_mapEntry_hit {w : World} {r : Nat} {es : Array MapEntry} {c i : Nat} {z : Int} {e : MapEntry} (h : w.heap[r]? = some (.map es c)) (hi : es.toList[i]? = some e) (hk : e.key = .int .i64 z) (hp : ∀ p, p < i → ∀ e', es.toList[p]? = some e' → ∃ y, e'.key = .int .i64 y ∧ y ≠ z) :
    (Instr.mapEntry 87 (.map (some r)) (.int .i64 z)).run Tryz.prog w = .ok (.tuple #[e.val, .int .i64 e.born]) (w.putObj r (.map (es.modify i fun e => { e with key := .int .i64 z }) c)) := by
  have hi2 : es[i]? = some e := by simpa using hi
  simp [Instr.mapEntry, Sem.run_bind, run_underlying under87, Result.andThen, run_getObj_map h, checkKey3, Instr.findKey, run_underlying under3, findNow_hit hi hk hp, hi2, hk, stays_int, run_setObj_map _ h, goInt]

theorem run_entryStore_some {w : World} {r : Nat} {es : Array MapEntry} {c : Nat} {b : Int} {u : Value} (h : w.heap[r]? = some (.map es c)) (hb : ∃ e ∈ es.toList, (e.born : Int) = b) :
    ∃ es2, (Instr.entryStore 87 (.map (some r)) (.int .i64 b) u).run Tryz.prog w = .ok () (w.putObj r (.map es2 c)) := by
  obtain ⟨e, he, hbe⟩ := hb
  have : ∃ j, es.findIdx? (fun e => (e.born : Int) == b) = some j := by
    cases hf : es.findIdx? (fun e => (e.born : Int) == b) with
    | some j => exact ⟨j, rfl⟩
    | none =>
      rw [Array.findIdx?_eq_none_iff] at hf
      have := hf e (by simpa using he)
      simp [hbe] at this
  obtain ⟨j, hj⟩ := this
  exact ⟨es.modify j fun e => { e with val := u }, by simp [Instr.entryStore, Sem.run_bind, Result.andThen, run_getObj_map h, asInt, asIntOf, hj, run_setObj_map _ h]⟩

/-- A key is entered, whatever it is, and its pointer is laid: where the key is greater than all, the list has one more. -/
theorem entry_any {w : World} {r : Nat} {l : List Se} (h : w.heap[r]? = some (.map (mapEs l).toArray l.length)) (hid : (l.map Se.id).Pairwise (· < ·)) (z : Nat) :
    ∃ (v : Value) (born : Int) (es1 : Array MapEntry) (c1 : Nat), (Instr.mapEntry 87 (.map (some r)) (.int .i64 (z : Int))).run Tryz.prog w = .ok (.tuple #[v, .int .i64 born]) (w.putObj r (.map es1 c1)) ∧
      ∀ (b : Nat) (w2 : World), w2.heap[r]? = some (.map es1 c1) → ∃ es2, (Instr.entryStore 87 (.map (some r)) (.int .i64 born) (.pointer (some ⟨b, 0, none⟩))).run Tryz.prog w2 = .ok () (w2.putObj r (.map es2 c1)) ∧
        ((∀ e ∈ l, e.id < z) → ∀ s n la, Obj.map es2 c1 = .map (mapEs (l ++ [(⟨z, b, s, n, la⟩ : Se)])).toArray (l.length + 1)) := by
  by_cases hz : ∃ e ∈ l, e.id = z
  · obtain ⟨e, he, hez⟩ := hz
    obtain ⟨i, hi, hie⟩ := List.mem_iff_getElem.1 he
    have hli : l[i]? = some e := by rw [List.getElem?_eq_getElem hi, hie]
    have hme := mapEs_at hli
    have hr := run_mapEntry_hit (z := (z : Int)) h (i := i) (e := ⟨.int .i64 (e.id : Int), .pointer (some ⟨e.b, 0, none⟩), i⟩) (by simpa using hme) (by rw [hez]) (fun p hp e' he' => by
      obtain ⟨e2, he2⟩ : ∃ e2, l[p]? = some e2 := ⟨l[p]'(by omega), List.getElem?_eq_getElem (by omega)⟩
      rw [List.toList_toArray, mapEs_at he2] at he'
      cases he'
      refine ⟨_, rfl, ?_⟩
      rw [List.pairwise_iff_getElem] at hid
      have := hid p i (by simpa using (by omega : p < l.length)) (by simpa using hi) hp
      rw [List.getElem?_eq_some_iff] at he2
      obtain ⟨_, e3⟩ := he2
      simp only [List.getElem_map, e3, hie] at this
      omega)
    refine ⟨_, _, _, _, hr, fun b w2 h2 => ?_⟩
    obtain ⟨es2, h3⟩ := run_entryStore_some (b := ((i : Nat) : Int)) (u := .pointer (some ⟨b, 0, none⟩)) h2 ⟨⟨.int .i64 (z : Int), .pointer (some ⟨e.b, 0, none⟩), i⟩, by
      rw [List.mem_iff_getElem?]
      refine ⟨i, ?_⟩
      rw [Array.getElem?_toList, Array.getElem?_modify, if_pos rfl]
      have : (mapEs l).toArray[i]? = some ⟨.int .i64 (e.id : Int), .pointer (some ⟨e.b, 0, none⟩), i⟩ := by simpa using hme
      rw [this]
      rfl, rfl⟩
    exact ⟨es2, h3, fun hall => absurd (hall e he) (by omega)⟩
  · have hne : ∀ e ∈ (mapEs l).toArray.toList, ∃ y, e.key = .int .i64 y ∧ y ≠ (z : Int) := fun x hx => by
      obtain ⟨e, he, h1, _, _⟩ := mapEs_mem (by simpa using hx)
      refine ⟨_, h1, fun h2 => hz ⟨e, he, by omega⟩⟩
    refine ⟨_, _, _, _, run_mapEntry_new h hne, fun b w2 h2 => ⟨_, run_entryStore_new h2 (fun x hx => by
      obtain ⟨_, _, _, _, h3⟩ := mapEs_mem (by simpa using hx)
      exact h3), fun hall s n la => ?_⟩⟩
    rw [mapEs_snoc]
    simp

/-- What lies in memory while the machine is read. -/
structure RI (w : World) (rb : Nat) (G : Option Nat) (B : Nat) (ap st : Nat) (oa : Option Addr) (n ca : Nat) (q : Rd) (a : Option Addr) (c : Nat) (V : World) : Prop where
  mc : V.heap[w.heap.size + 1]? = some (.cells (machV 100 ap st oa n ca w.heap.size) 89 (0, 0))
  rd : Rdr V rb G q a c
  rb_ : w.heap.size + 2 ≤ rb
  rB : rb < B
  g_ : ∀ g, G = some g → w.heap.size + 2 ≤ g ∧ g < B
  kp : Kp (fun j => w.heap.size ≤ j) w V
  B_ : B ≤ V.heap.size
section
variable {w : World} {rb : Nat} {G : Option Nat} {B ap st : Nat} {oa : Option Addr} {n ca : Nat} {q q' : Rd} {a a' : Option Addr} {c c' : Nat} {V V' : World}
theorem RI.step (h : RI w rb G B ap st oa n ca q a c V) (k : Kp (fun j => j = rb) V V') (hr : Rdr V' rb G q' a' c') : RI w rb G B ap st oa n ca q' a' c' V' :=
  ⟨k.heap h.mc (by have := h.rb_; omega), hr, h.rb_, h.rB, h.g_, h.kp.andThen k (fun _ _ e => by have := h.rb_; omega), Nat.le_trans h.B_ k.size⟩
theorem RI.kpS (h : RI w rb G B ap st oa n ca q a c V) {S : Nat → Prop} (k : Kp S V V') (h1 : ¬ S (w.heap.size + 1)) (h2 : ¬ S rb) (h3 : ∀ g, G = some g → ¬ S g) (h4 : ∀ j, j < w.heap.size → ¬ S j) : RI w rb G B ap st oa n ca q a c V' :=
  ⟨k.heap h.mc h1, h.rd.kp k h2 h3, h.rb_, h.rB, h.g_, h.kp.andThen k (fun j hj e => absurd e (h4 j hj)), Nat.le_trans h.B_ k.size⟩
theorem RI.no (h : RI w rb G B ap st oa n ca q a c V) (k : Kp (fun _ => False) V V') : RI w rb G B ap st oa n ca q a c V' := h.kpS k (fun h => h) (fun h => h) (fun _ _ h => h) (fun _ _ h => h)
theorem RI.map (h : RI w rb G B ap st oa n ca q a c V) (k : Kp (fun j => j = w.heap.size) V V') : RI w rb G B ap st oa n ca q a c V' :=
  h.kpS k (by omega) (by have := h.rb_; omega) (fun g hg => by have := (h.g_ g hg).1; omega) (fun j hj => by omega)
end

/-- The sessions that have been read. -/
structure Sess (w : World) (B ap t : Nat) (l : List Se) (was : Nat) (V : World) : Prop where
  map : V.heap[w.heap.size]? = some (.map (mapEs l).toArray l.length)
  ses : ∀ e ∈ l, B ≤ e.b ∧ V.heap[e.b]? = some (.cells #[.int .i64 e.s, .int .i64 e.n, .int .i64 e.l] 92 (0, 0))
  ids : (l.map Se.id).Pairwise (· < ·)
  was_ : ∀ e ∈ l, e.id ≤ was
  sok : ∀ e ∈ l, e.id ≤ ap ∧ e.s < 1099511627776 ∧ (e.n < t ∨ e.n = 0) ∧ e.l ≤ ap
theorem Sess.kp {w V V' : World} {B ap t was : Nat} {l : List Se} (h : Sess w B ap t l was V) {S : Nat → Prop} (k : Kp S V V') (h1 : ¬ S w.heap.size) (h2 : ∀ j, B ≤ j → j < V.heap.size → ¬ S j) : Sess w B ap t l was V' :=
  ⟨k.heap h.map h1, fun e he => ⟨(h.ses e he).1, k.heap (h.ses e he).2 (h2 _ (h.ses e he).1 (lt_of_block (h.ses e he).2))⟩, h.ids, h.was_, h.sok⟩
end Go.Proofs.YtecohkoekifeiaaGreatDoor
