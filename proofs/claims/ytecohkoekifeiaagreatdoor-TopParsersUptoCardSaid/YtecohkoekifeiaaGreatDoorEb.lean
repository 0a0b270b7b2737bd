/-
  The evaluator's operations are sound, part two. No condition.
-/
import Derived.Test.YtecohkoekifeiaaGreatDoorEa
import Derived.Laws.Runes
set_option linter.all false
namespace Go.Ev
open Go

section
variable {C : Cfg} {low : Nat → Option Obj} {ρ : Emb} {h : AH} {w : World}

/-! ## New rows -/
theorem Sim.le_upd (s : Sim C low ρ h w) (g : Img) : ρ.le (ρ.upd h.next g) := Emb.le_upd (s.fresh _ (Nat.le_refl _))

theorem newRow_exact (s : Sim C low ρ h w) {cells cells' : Array Value} (hr : AR ρ cells cells') (elem : TypeId) {w1 : World} (e : w1.heap = w.heap.push (.cells cells' elem))
    (ev : w1.tape = w.tape ∧ w1.os = w.os ∧ w1.output = w.output) :
    Nx C low ρ h w (ρ.upd h.next ⟨w.heap.size, 0, 0⟩) (h.new (.cells cells elem false false)) w1 := by
  refine Nx.new s 0 (o' := .cells cells' elem) ?_ e ev
  refine .cells (fun _ => ⟨Nat.le_refl _, fun i _ => by simp⟩) (fun _ => ⟨rfl, hr.1.symm⟩) (fun h => by cases h) fun i v v' h1 h2 => ?_
  simp only [Nat.zero_add] at h2
  exact (hr.2 i v v' h1 h2).mono (s.le_upd _)

theorem ptr_upd (n b r : Nat) : VR (ρ.upd n ⟨b, 0, r⟩) (.pointer (some ⟨n, 0, none⟩)) (.pointer (some ⟨b, 0, none⟩)) :=
  .ptr ⟨_, Emb.upd_self _ _ _, rfl, rfl, rfl, rfl⟩

theorem plainA_cells {v : Value} (hv : plainV v = true) : plainA v.cells = true := by
  cases v <;> first
    | (simpa [Value.cells, plainV] using hv)
    | (simp only [Value.cells, plainA, plainL, hv, Bool.and_self])

theorem alloc_sound (s : Sim C low ρ h w) {t : TypeId} {z : Value} (hz : zeroOf C.P t = some z) :
    ∃ w1, (Instr.alloc t true (.tuple #[])).run C.P w = .ok (.pointer (some ⟨w.heap.size, 0, none⟩)) w1 ∧
      Nx C low ρ h w (ρ.upd h.next ⟨w.heap.size, 0, 0⟩) (h.new (.cells z.cells t false false)) w1 := by
  obtain ⟨_, _, _, hp⟩ := zeroOf_some hz
  exact ⟨{ w with heap := w.heap.push (.cells z.cells t) }, by simp [Instr.alloc, run_zeroValue hz, newVar, Go.newRow], newRow_exact s (AR.refl_plain (plainA_cells hp)) t rfl ⟨rfl, rfl, rfl⟩⟩

theorem box_sound (s : Sim C low ρ h w) {t : TypeId} {v v' : Value} (hv : VR ρ v v') :
    ∃ w1, (Instr.box t v').run C.P w = .ok (.pointer (some ⟨w.heap.size, 0, none⟩)) w1 ∧
      Nx C low ρ h w (ρ.upd h.next ⟨w.heap.size, 0, 0⟩) (h.new (.cells v.cells t false false)) w1 :=
  ⟨{ w with heap := w.heap.push (.cells v'.cells t) }, by simp [Instr.box, newVar, Go.newRow], newRow_exact s (AR.cells hv) t rfl ⟨rfl, rfl, rfl⟩⟩

/-! ## Parts -/
def PartR (ρ : Emb) (p p' : Nat × Value) : Prop := p'.1 = p.1 ∧ VR ρ p.2 p'.2

theorem foldl_set_rel {l l' : List Value} (hl : L2 (VR ρ) l l') : ∀ (k off : Nat) (cs cs' : Array Value), AR ρ cs cs' →
    AR ρ ((l.zipIdx k).foldl (fun cs (c, j) => cs.setIfInBounds (off + j) c) cs) ((l'.zipIdx k).foldl (fun cs (c, j) => cs.setIfInBounds (off + j) c) cs') := by
  induction hl with
  | nil => intro k off cs cs' h; exact h
  | cons hv _ ih => intro k off cs cs' h; exact ih (k + 1) off _ _ (h.set hv _)

theorem fill_rel {place : Nat → Option (Nat × Nat)} {ps ps' : List (Nat × Value)} (hp : L2 (PartR ρ) ps ps') : ∀ (cs cs' out : Array Value), AR ρ cs cs' →
    Instr.fill place cs ps = some out → ∃ out', Instr.fill place cs' ps' = some out' ∧ AR ρ out out' := by
  induction hp with
  | nil => intro cs cs' out h e; cases e; exact ⟨cs', rfl, h⟩
  | @cons a b l m hv _ ih =>
    intro cs cs' out h e
    obtain ⟨i, v⟩ := a
    obtain ⟨i', v'⟩ := b
    obtain ⟨rfl, hv⟩ := hv
    simp only [Instr.fill] at e ⊢
    cases hpl : place i' with
    | none => simp [hpl] at e
    | some x =>
      obtain ⟨off, size⟩ := x
      have hc := AR.cells hv
      simp only [hpl] at e ⊢
      rw [← hc.1, ← h.1]
      split at e
      · cases e
      · rename_i hif
        rw [if_neg hif]
        have e2 := foldl_set_rel hc.list 0 off cs cs' h
        simp only [← Array.foldl_toList, Array.toList_zipIdx] at e ⊢
        exact ih _ _ out e2 e

theorem evAll_rel {ev : Ev} {ev' : Operand → Value} (he : EvR ρ ev ev') : ∀ (xs : List Operand) (vs : List Value), evAll ev xs = some vs → L2 (VR ρ) vs (xs.map ev')
  | [], vs, h => by simp [evAll] at h; subst h; exact .nil
  | x :: xs, vs, h => by
    simp only [evAll] at h
    cases hx : ev x with
    | none => simp [hx] at h
    | some v =>
      cases hl : evAll ev xs with
      | none => simp [hx, hl] at h
      | some us =>
        simp only [hx, hl] at h
        cases h
        exact .cons (he x v hx) (evAll_rel he xs us hl)

theorem evArr_rel {ev : Ev} {ev' : Operand → Value} (he : EvR ρ ev ev') {xs : Array Operand} {vs : Array Value} (h : evArr ev xs = some vs) : AR ρ vs (xs.map ev') := by
  unfold evArr at h
  simp only [Option.map_eq_some_iff] at h
  obtain ⟨l, h1, rfl⟩ := h
  exact L2.ar (by simpa using evAll_rel he _ _ h1)

theorem zip_parts {ps : List (Nat × Operand)} {vs : List Value} {ev' : Operand → Value} (h : L2 (VR ρ) vs (ps.map fun p => ev' p.2)) :
    L2 (PartR ρ) ((ps.map (·.1)).zip vs) (ps.map fun p => (p.1, ev' p.2)) := by
  induction ps generalizing vs with
  | nil => cases h; exact .nil
  | cons p ps ih =>
    cases h with
    | cons hv ht => exact .cons ⟨rfl, hv⟩ (ih ht)

theorem mapM_sizes {P : Program} : ∀ (fs : List Field) (pl : List (Nat × Nat)), fs.mapM (fun f => (sizeT P f.type).map fun s => (f.offset, s)) = some pl → ∀ w,
    ((fs.mapM fun f => do pure (f.offset, ← sizeOf f.type) : Sem (List (Nat × Nat)))).run P w = .ok pl w
  | [], pl, h, w => by simp at h; subst h; rfl
  | f :: fs, pl, h, w => by
    rw [List.mapM_cons] at h
    simp only [Option.bind_eq_bind, Option.bind_eq_some_iff, Option.pure_def, Option.map_eq_some_iff, Option.some.injEq] at h
    obtain ⟨x, ⟨s, hs, rfl⟩, l, hl, rfl⟩ := h
    rw [List.mapM_cons]
    have ih := mapM_sizes fs l hl w
    simp only [Sem.run_bind, run_sizeOf hs, Result.andThen_ok, Sem.run_pure, ih]

theorem build_sound (s : Sim C low ρ h w) {t : TypeId} {ps : Array (Nat × Operand)} {ev : Ev} {ev' : Operand → Value} (he : EvR ρ ev ev') {vs : Array Value} {z : Value}
    (hvs : evArr ev (ps.map (·.2)) = some vs) (hz : zeroOf C.P t = some z) :
    (∀ fs pl cs, C.P.underlying t = some (.struct fs) → fs.toList.mapM (fun f => (sizeT C.P f.type).map fun s => (f.offset, s)) = some pl →
      Instr.fill (pl[·]?) z.cells ((ps.toList.map (·.1)).zip vs.toList) = some cs → ∃ v', (Instr.build t (ps.map fun (i, x) => (i, ev' x))).run C.P w = .ok v' w ∧ VR ρ (.agg cs) v') ∧
    (∀ n e sz cs, C.P.underlying t = some (.array n e) → sizeT C.P e = some sz →
      Instr.fill (fun i => some (i * sz, sz)) z.cells ((ps.toList.map (·.1)).zip vs.toList) = some cs → ∃ v', (Instr.build t (ps.map fun (i, x) => (i, ev' x))).run C.P w = .ok v' w ∧ VR ρ (.agg cs) v') := by
  obtain ⟨_, _, _, hp⟩ := zeroOf_some hz
  have hzr : AR ρ z.cells z.cells := AR.refl_plain (plainA_cells hp)
  have hl : L2 (VR ρ) vs.toList (ps.toList.map fun p => ev' p.2) := by
    have := (evArr_rel he hvs).list
    simpa [Function.comp_def] using this
  have hparts := zip_parts (ev' := ev') hl
  have hlist : (ps.map fun (i, x) => (i, ev' x)).toList = ps.toList.map fun p => (p.1, ev' p.2) := by simp
  refine ⟨fun fs pl cs hu hm hf => ?_, fun n e sz cs hu hs hf => ?_⟩
  · obtain ⟨out', h1, h2⟩ := fill_rel hparts _ _ _ hzr hf
    refine ⟨.agg out', ?_, .agg h2.1 h2.2⟩
    have hrun := mapM_sizes fs.toList pl hm w
    have hrun2 : ((fs.mapM fun f => do pure (f.offset, ← sizeOf f.type) : Sem (Array (Nat × Nat)))).run C.P w = .ok pl.toArray w := by
      rw [Array.mapM_eq_mapM_toList, Sem.run_map, hrun]; rfl
    simp only [Instr.build, Sem.run_bind, run_zeroValue hz, Result.andThen_ok, run_underlying hu, hrun2]
    have hpl : (fun (i : Nat) => pl.toArray[i]?) = fun (i : Nat) => pl[i]? := by funext i; simp
    rw [hlist]
    simp only [hpl, h1]
    rfl
  · obtain ⟨out', h1, h2⟩ := fill_rel hparts _ _ _ hzr hf
    refine ⟨.agg out', ?_, .agg h2.1 h2.2⟩
    simp only [Instr.build, Sem.run_bind, run_zeroValue hz, Result.andThen_ok, run_underlying hu, run_sizeOf hs]
    rw [hlist]
    simp only [h1]
    rfl

theorem plainA_zeros {cells : Array Value} (hp : plainA cells = true) (n : Nat) : plainA ((Array.range n).map (cells[· % cells.size]!)) = true := by
  rw [plainA_iff]
  intro v hv
  simp only [Array.toList_map, List.mem_map] at hv
  obtain ⟨i, _, rfl⟩ := hv
  by_cases hi : i % cells.size < cells.size
  · rw [getElem!_pos cells _ hi]
    exact plainA_at hp (i := i % cells.size) (by simp [hi])
  · rw [getElem!_neg cells _ hi]; rfl

theorem zeroCells_plain {cells : Array Value} (hp : plainA cells = true) (n : Nat) : plainA (Builtin.zeroCells cells n) = true := plainA_zeros hp _

theorem slc_upd (n b r l c : Nat) (hc : c < big) : VR (ρ.upd n ⟨b, 0, r⟩) (.slice (some ⟨n, 0, none⟩) l c) (.slice (some ⟨b, 0, none⟩) l c) :=
  .slc ⟨_, Emb.upd_self _ _ _, rfl, rfl, rfl, rfl⟩ hc

theorem buildSlice_sound (s : Sim C low ρ h w) {t e : TypeId} {n : Nat} {ps : Array (Nat × Operand)} {ev : Ev} {ev' : Operand → Value} (he : EvR ρ ev ev') {vs : Array Value} {z : Value} {sz : Nat}
    {cs : Array Value} (hvs : evArr ev (ps.map (·.2)) = some vs) (hu : C.P.underlying t = some (.slice e)) (hs : sizeT C.P e = some sz) (hz : zeroOf C.P e = some z) (hn : n * sz ≤ 2 ^ 24) (hnb : n < big)
    (hf : Instr.fill (fun i => some (i * sz, sz)) ((Array.range (n * sz)).map (z.cells[· % z.cells.size]!)) ((ps.toList.map (·.1)).zip vs.toList) = some cs) :
    ∃ w1, (Instr.buildSlice t n (ps.map fun (i, x) => (i, ev' x))).run C.P w = .ok (.slice (some ⟨w.heap.size, 0, none⟩) n n) w1 ∧
      Nx C low ρ h w (ρ.upd h.next ⟨w.heap.size, 0, 0⟩) (h.new (.cells cs e false false)) w1 ∧
      VR (ρ.upd h.next ⟨w.heap.size, 0, 0⟩) (.slice (some ⟨h.next, 0, none⟩) n n) (.slice (some ⟨w.heap.size, 0, none⟩) n n) := by
  obtain ⟨_, _, _, hp⟩ := zeroOf_some hz
  have hl : L2 (VR ρ) vs.toList (ps.toList.map fun p => ev' p.2) := by
    have := (evArr_rel he hvs).list
    simpa [Function.comp_def] using this
  have hparts := zip_parts (ev' := ev') hl
  have hlist : (ps.map fun (i, x) => (i, ev' x)).toList = ps.toList.map fun p => (p.1, ev' p.2) := by simp
  obtain ⟨out', h1, h2⟩ := fill_rel hparts _ _ _ (AR.refl_plain (plainA_zeros (plainA_cells hp) (n * sz))) hf
  refine ⟨{ w with heap := w.heap.push (.cells out' e) }, ?_, newRow_exact s h2 e rfl ⟨rfl, rfl, rfl⟩, slc_upd _ _ _ _ _ hnb⟩
  have hle : ¬ n * sz > 2 ^ 24 := by omega
  by_cases h0 : n * sz = 0
  · have r0 : ∀ f : Nat → Value, (Array.range 0).map f = #[] := fun f => Array.eq_empty_of_size_eq_zero (by simp)
    rw [h0, r0] at h1
    have h1' : Instr.fill (fun i => some (i * sz, sz)) #[] (List.map (fun p => (p.fst, ev' p.snd)) ps.toList) = some out' := h1
    simp [Instr.buildSlice, run_underlying hu, run_sizeOf hs, h0, r0, h1', Go.newRow]
  · simp only [Instr.buildSlice, Sem.run_bind, run_underlying hu, Result.andThen_ok, run_sizeOf hs, hle, if_false, h0, run_zeroValue hz, Sem.run_pure]
    rw [hlist, h1]
    simp [Go.newRow]
end
end Go.Ev
namespace Go.Ev
open Go

section
variable {C : Cfg} {low : Nat → Option Obj} {ρ : Emb} {h : AH} {w : World}

/-! ## Objects -/
theorem run_getObj {P : Program} {b : Nat} {o : Obj} (hb : w.heap[b]? = some o) (hc : ∀ c e f, o ≠ .cells c e f) : (getObj b).run P w = .ok o w := by
  simp only [getObj, Sem.run, hb]
theorem run_setObj {P : Program} {b : Nat} {o o' : Obj} (hb : w.heap[b]? = some o) (hc : ∀ c e f, o ≠ .cells c e f) :
    (setObj b o').run P w = .ok () { w with heap := w.heap.setIfInBounds b o' } := by
  simp only [setObj, Sem.run, hb]

def EntR (ρ : Emb) (e e' : MapEntry) : Prop := VR ρ e.key e'.key ∧ VR ρ e.val e'.val ∧ e'.born = e.born

def EsR (ρ : Emb) (es es' : Array MapEntry) : Prop := es.size = es'.size ∧ ∀ (i : Nat) (e e' : MapEntry), es[i]? = some e → es'[i]? = some e' → EntR ρ e e'

theorem l2_of_arr {α β : Type} {R : α → β → Prop} : ∀ (l : List α) (m : List β), l.length = m.length → (∀ (i : Nat) (v : α) (v' : β), l[i]? = some v → m[i]? = some v' → R v v') → L2 R l m
  | [], [], _, _ => .nil
  | [], _ :: _, h, _ => by simp at h
  | _ :: _, [], h, _ => by simp at h
  | v :: l, v' :: m, h, he => .cons (he 0 v v' (by simp) (by simp)) (l2_of_arr l m (by simpa using h) fun i u u' h1 h2 => he (i + 1) u u' (by simpa using h1) (by simpa using h2))
theorem L2.at {α β : Type} {R : α → β → Prop} {l : List α} {m : List β} (h : L2 R l m) : ∀ (i : Nat) (v : α) (v' : β), l[i]? = some v → m[i]? = some v' → R v v' := by
  induction h with
  | nil => intro i v v' h; simp at h
  | cons h _ ih =>
    intro i v v' h1 h2
    match i with
    | 0 => simp at h1 h2; subst h1 h2; exact h
    | i + 1 => exact ih i v v' (by simpa using h1) (by simpa using h2)
theorem EsR.list {es es' : Array MapEntry} (h : EsR ρ es es') : L2 (EntR ρ) es.toList es'.toList :=
  l2_of_arr _ _ (by simpa using h.1) fun i v v' h1 h2 => h.2 i v v' (by simpa using h1) (by simpa using h2)
theorem L2.es {es es' : Array MapEntry} (h : L2 (EntR ρ) es.toList es'.toList) : EsR ρ es es' :=
  ⟨by simpa using h.length, fun i e e' h1 h2 => h.at i e e' (by simpa using h1) (by simpa using h2)⟩
theorem EsR.get {es es' : Array MapEntry} (h : EsR ρ es es') {i : Nat} {e : MapEntry} (he : es[i]? = some e) : ∃ e', es'[i]? = some e' ∧ EntR ρ e e' := by
  have hi := (Array.getElem?_eq_some_iff.1 he).1
  have hi' : i < es'.size := h.1 ▸ hi
  exact ⟨es'[i], by simp [hi'], h.2 i e _ he (by simp [hi'])⟩

theorem mapOf_sound (s : Sim C low ρ h w) {x x' : Value} {es : Array MapEntry} {clock : Nat} (hm : mapOf h x = some (es, clock)) (hx : VR ρ x x') :
    ∃ r g es', x = .map (some r) ∧ ρ r = some g ∧ x' = .map (some g.b) ∧ h.get r = some (.map es clock) ∧ w.heap[g.b]? = some (.map es' clock) ∧ EsR ρ es es' := by
  unfold mapOf at hm
  split at hm
  · rename_i r
    split at hm
    · rename_i es2 c hg
      cases hm
      cases hx with
      | map hgr =>
        rename_i g
        obtain ⟨g2, o', h1, h2, h3⟩ := s.live r _ hg
        rw [hgr] at h1; cases h1
        cases h3 with
        | map clock hs he => exact ⟨r, g, _, rfl, hgr, rfl, hg, h2, hs, he⟩
    · cases hm
  · cases hm

theorem keyKind_some {P : Program} {t : TypeId} {k : TypeDesc} (h : keyKind P t = some k) : P.underlying t = some k ∧ ((∃ i, k = .int i) ∨ k = .string ∨ k = .bool) := by
  unfold keyKind at h
  split at h <;> first
    | (cases h; done)
    | (rename_i hu; cases h; exact ⟨hu, by simp⟩)

theorem run_checkKey {P : Program} {t : TypeId} {k : TypeDesc} (h : keyKind P t = some k) (b : Bool) (v : Value) : (Instr.checkKey b 10000 t v).run P w = .ok () w := by
  obtain ⟨hu, hk⟩ := keyKind_some h
  show (Instr.checkKey b (9999 + 1) t v).run P w = .ok () w
  rw [Instr.checkKey, Sem.run_bind, run_underlying hu, Result.andThen_ok]
  rcases hk with ⟨i, rfl⟩ | rfl | rfl <;> rfl

theorem sameNow_rel {kind : TypeDesc} {k k' v v' : Value} {b : Bool} (h : Instr.sameNow kind k v = some b) (hk : VR ρ k k') (hv : VR ρ v v') : Instr.sameNow kind k' v' = some b := by
  unfold Instr.sameNow at h
  split at h <;> first
    | (cases hk; cases hv; exact h)
    | cases h

theorem findNow_rel {kind : TypeDesc} {k k' : Value} (hk : VR ρ k k') {es es' : List MapEntry} (he : L2 (EntR ρ) es es') : ∀ (i : Nat) (r : Option (Nat × Value)), Instr.findNow kind k es i = some r →
    (r = none ∧ Instr.findNow kind k' es' i = some none) ∨ (∃ j v v', r = some (j, v) ∧ Instr.findNow kind k' es' i = some (some (j, v')) ∧ VR ρ v v' ∧
      i ≤ j ∧ ∃ e e', es[j - i]? = some e ∧ es'[j - i]? = some e' ∧ EntR ρ e e' ∧ e.val = v) := by
  induction he with
  | nil => intro i r h; simp [Instr.findNow] at h; subst h; exact .inl ⟨rfl, rfl⟩
  | @cons e e' l m hee _ ih =>
    intro i r h
    simp only [Instr.findNow] at h ⊢
    cases hs : Instr.sameNow kind k e.key with
    | none => simp [hs] at h
    | some b =>
      rw [sameNow_rel hs hk hee.1]
      cases b with
      | true =>
        simp only [hs] at h
        cases h
        exact .inr ⟨i, _, _, rfl, rfl, hee.2.1, Nat.le_refl _, e, e', by simp, by simp, hee, rfl⟩
      | false =>
        simp only [hs] at h
        rcases ih (i + 1) r h with ⟨rfl, h2⟩ | ⟨j, v, v', rfl, h2, h3, h4, e1, e1', h5, h6, h7, h8⟩
        · exact .inl ⟨rfl, h2⟩
        · have hj : j - i = (j - (i + 1)) + 1 := by omega
          exact .inr ⟨j, v, v', rfl, h2, h3, by omega, e1, e1', by rw [hj]; simpa using h5, by rw [hj]; simpa using h6, h7, h8⟩

theorem run_findKey {P : Program} {t : TypeId} {kind : TypeDesc} {k : Value} {es : List MapEntry} {r : Option (Nat × Value)} (hu : P.underlying t = some kind) (h : Instr.findNow kind k es 0 = some r) :
    (Instr.findKey t k es).run P w = .ok r w := by
  simp [Instr.findKey, run_underlying hu, h]

def lookTail (kt et : TypeId) (k : Value) (ok : Bool) (es : Array MapEntry) : Sem Value := do
  Instr.checkKey es.isEmpty 10000 kt k
  let (v, ok2) ← match ← Instr.findKey kt k es.toList with
    | some (_, v) => pure (v, true)
    | none => do pure (← zeroValue et, false)
  pure (if ok then .tuple #[v, .bool ok2] else v)

theorem alookup_sound (s : Sim C low ρ h w) {t : TypeId} {x x' k k' v : Value} {ok : Bool} (ha : alookup C h t x k ok = some v) (hx : VR ρ x x') (hk : VR ρ k k') :
    ∃ v', (Instr.lookup t x' k' ok).run C.P w = .ok v' w ∧ VR ρ v v' := by
  unfold alookup at ha
  split at ha
  · rename_i kt et hu
    cases hkk : keyKind C.P kt with
    | none => simp [hkk] at ha
    | some kind =>
      obtain ⟨hukt, _⟩ := keyKind_some hkk
      simp only [hkk] at ha
      have main : ∀ (es es' : Array MapEntry), EsR ρ es es' → (Instr.lookup t x' k' ok).run C.P w = (lookTail kt et k' ok es').run C.P w →
          (match Instr.findNow kind k es.toList 0 with
            | some (some (_, v)) => some (if ok then .tuple #[v, .bool true] else v)
            | some none => (zeroOf C.P et).map fun z => if ok then .tuple #[z, .bool false] else z
            | none => none) = some v → ∃ v', (Instr.lookup t x' k' ok).run C.P w = .ok v' w ∧ VR ρ v v' := by
        intro es es' hes hl hf
        rw [hl, lookTail, Sem.run_bind, run_checkKey hkk, Result.andThen_ok]
        have pairR : ∀ (u u' : Value) (b : Bool), VR ρ u u' → VR ρ (if ok then .tuple #[u, .bool b] else u) (if ok then .tuple #[u', .bool b] else u') := by
          intro u u' b hu
          cases ok
          · exact hu
          · have := (AR.single hu).append (AR.single (VR.bool (ρ := ρ) b))
            exact .tuple this.1 this.2
        cases hfn : Instr.findNow kind k es.toList 0 with
        | none => simp [hfn] at hf
        | some r =>
          rcases findNow_rel hk hes.list 0 r hfn with ⟨rfl, h2⟩ | ⟨j, u, u', rfl, h2, h3, _⟩
          · simp only [hfn, Option.map_eq_some_iff] at hf
            obtain ⟨z, hz, rfl⟩ := hf
            obtain ⟨_, _, _, hp⟩ := zeroOf_some hz
            refine ⟨_, ?_, pairR z z false (VR.plain ρ z hp)⟩
            simp [run_findKey hukt h2, run_zeroValue hz]
          · simp only [hfn] at hf
            cases hf
            refine ⟨_, ?_, pairR u u' true h3⟩
            simp [run_findKey hukt h2]
      cases x with
      | map r =>
        cases r with
        | none =>
          cases hx
          refine main #[] #[] ⟨rfl, fun i e e' h1 _ => by simp at h1⟩ ?_ ha
          unfold Instr.lookup
          rw [Sem.run_bind, run_underlying hu, Result.andThen_ok]
          rfl
        | some r =>
          simp only at ha
          cases hmo : mapOf h (.map (some r)) with
          | none => simp [hmo] at ha
          | some y =>
            obtain ⟨es, clock⟩ := y
            obtain ⟨r2, g, es', e1, e2, e3, e4, e5, e6⟩ := mapOf_sound s hmo hx
            subst e3
            simp only [hmo, Option.map_some] at ha
            refine main es es' e6 ?_ ha
            unfold Instr.lookup
            rw [Sem.run_bind, run_underlying hu, Result.andThen_ok]
            simp only
            rw [Sem.run_bind, run_getObj e5 (by intro _ _ _ h; cases h), Result.andThen_ok]
            rfl
      | _ => simp [mapOf] at ha
  · cases ha

theorem EsR.modify {es es' : Array MapEntry} (h : EsR ρ es es') (i : Nat) {f f' : MapEntry → MapEntry} (hf : ∀ e e', es[i]? = some e → EntR ρ e e' → EntR ρ (f e) (f' e')) : EsR ρ (es.modify i f) (es'.modify i f') := by
  refine ⟨by simp [h.1], fun j e e' h1 h2 => ?_⟩
  rw [Array.getElem?_modify] at h1 h2
  by_cases hij : i = j
  · subst hij
    rw [if_pos rfl] at h1 h2
    simp only [Option.map_eq_some_iff] at h1 h2
    obtain ⟨x, hx, rfl⟩ := h1
    obtain ⟨x', hx', rfl⟩ := h2
    exact hf x x' hx (h.2 i x x' hx hx')
  · rw [if_neg hij] at h1 h2; exact h.2 j e e' h1 h2
theorem EsR.push {es es' : Array MapEntry} (h : EsR ρ es es') {e e' : MapEntry} (he : EntR ρ e e') : EsR ρ (es.push e) (es'.push e') := by
  refine ⟨by simp [h.1], fun j x x' h1 h2 => ?_⟩
  rw [Array.getElem?_push] at h1 h2
  rw [← h.1] at h2
  by_cases hj : j = es.size
  · rw [if_pos hj] at h1 h2; cases h1; cases h2; exact he
  · rw [if_neg hj] at h1 h2; exact h.2 j x x' h1 h2

theorem sameBits_rel {a b a' b' : Value} (ha : VR ρ a a') (hb : VR ρ b b') (hp : plainV a = true) (hq : plainV b = true) : Instr.sameBits 10000 a' b' = Instr.sameBits 10000 a b := by
  rw [ha.plain_eq hp, hb.plain_eq hq]

theorem amapUpdate_sound (s : Sim C low ρ h w) {t : TypeId} {m m' k k' v v' : Value} {h1 : AH} (ha : amapUpdate C h t m k v = some h1) (hm : VR ρ m m') (hk : VR ρ k k') (hv : VR ρ v v')
    : ∃ w1, (Instr.mapUpdate t m' k' v').run C.P w = .ok () w1 ∧ Nx C low ρ h w ρ h1 w1 := by
  unfold amapUpdate at ha
  split at ha
  · rename_i kt et r es clock hu hmo
    cases hkk : keyKind C.P kt with
    | none => simp [hkk] at ha
    | some kind =>
      obtain ⟨hukt, _⟩ := keyKind_some hkk
      simp only [hkk] at ha
      obtain ⟨hc, ha⟩ := cond_none ha
      simp only [Bool.and_eq_true] at hc
      have hb := Nat.le_of_ble_eq_true hc.1
      have hpk := hc.2
      obtain ⟨r2, g, es', e1, e2, e3, e4, e5, e6⟩ := mapOf_sound s hmo hm
      cases e1; subst e3
      have hnc : ∀ c e f, Obj.map es' clock ≠ .cells c e f := by intro _ _ _ h; cases h
      have base : (Instr.mapUpdate t (.map (some g.b)) k' v').run C.P w = (match Instr.findNow kind k' es'.toList 0 with
          | some (some (i, _)) => (do
              let key ← Instr.keyThatStays (((es'[i]?).map (·.key)).getD k') k'
              setObj g.b (.map (es'.modify i fun e => { e with key, val := v' }) clock) : Sem Unit).run C.P w
          | some none => (setObj g.b (.map (es'.push { key := k', val := v', born := clock }) (clock + 1))).run C.P w
          | none => (Instr.mapUpdate t (.map (some g.b)) k' v').run C.P w) := by
        cases hfn : Instr.findNow kind k' es'.toList 0 with
        | none => rfl
        | some r =>
          unfold Instr.mapUpdate
          rw [Sem.run_bind, run_underlying hu, Result.andThen_ok]
          simp only
          rw [Sem.run_bind, run_getObj e5 hnc, Result.andThen_ok]
          simp only
          rw [Sem.run_bind, run_checkKey hkk, Result.andThen_ok, Sem.run_bind, run_findKey hukt hfn, Result.andThen_ok]
          cases r <;> rfl
      cases hfn : Instr.findNow kind k es.toList 0 with
      | none => simp [hfn] at ha
      | some r =>
        rcases findNow_rel hk e6.list 0 r hfn with ⟨rfl, h2⟩ | ⟨j, u, u', rfl, h2, h3, _, en, en', h5, h6, h7, _⟩
        · simp only [hfn] at ha; cases ha
          rw [h2] at base
          refine ⟨_, base.trans (run_setObj e5 hnc), ?_⟩
          have hpu : EsR ρ (es.push { key := k, val := v, born := clock }) (es'.push { key := k', val := v', born := clock }) := e6.push ⟨hk, hv, rfl⟩
          exact Nx.put s e4 hb e2 (.map _ hpu.1 hpu.2) rfl ⟨rfl, rfl, rfl⟩
        · simp only [hfn] at ha
          obtain ⟨hs, ha⟩ := cond_some ha
          subst ha
          rw [h2] at base
          have h5' : es[j]? = some en := by simpa using h5
          have h6' : es'[j]? = some en' := by simpa using h6
          simp only [Bool.and_eq_true] at hs
          obtain ⟨hs1, hs2⟩ := hs
          simp only [h5', Option.map_some, Option.getD_some] at hs1 hs2
          have hsb : Instr.sameBits 10000 en'.key k' = true := by rw [sameBits_rel h7.1 hk hs1 hpk]; exact hs2
          have hmod : EsR ρ (es.modify j fun e => { e with key := k, val := v }) (es'.modify j fun e => { e with key := k', val := v' }) :=
            e6.modify j fun e e' _ he => ⟨hk, hv, he.2.2⟩
          refine ⟨{ w with heap := w.heap.setIfInBounds g.b (.map (es'.modify j fun e => { e with key := k', val := v' }) clock) }, base.trans ?_, Nx.put s e4 hb e2 (.map _ hmod.1 hmod.2) rfl ⟨rfl, rfl, rfl⟩⟩
          simp only [h6', Option.map_some, Option.getD_some, Instr.keyThatStays, hsb, if_true, Sem.run_bind, Sem.run_pure, Result.andThen_ok]
          exact run_setObj e5 hnc
  · cases ha

theorem eraseIdx_rel {es es' : Array MapEntry} (h : EsR ρ es es') (i : Nat) : EsR ρ (es.eraseIdxIfInBounds i) (es'.eraseIdxIfInBounds i) := by
  apply L2.es
  have hl := h.list
  have key : ∀ (l m : List MapEntry), L2 (EntR ρ) l m → ∀ i, L2 (EntR ρ) (l.eraseIdx i) (m.eraseIdx i) := by
    intro l m hlm
    induction hlm with
    | nil => intro i; exact .nil
    | cons hh ht ih =>
      intro i
      match i with
      | 0 => exact ht
      | i + 1 => exact .cons hh (ih i)
  have e1 : ∀ (a : Array MapEntry), (a.eraseIdxIfInBounds i).toList = a.toList.eraseIdx i := by
    intro a
    unfold Array.eraseIdxIfInBounds
    split
    · simp
    · rename_i hn
      rw [List.eraseIdx_of_length_le (by simpa using hn)]
  rw [e1, e1]
  exact key _ _ hl i

theorem adelete_sound (s : Sim C low ρ h w) {ats : Array TypeId} {ty : TypeId} {args args' : Array Value} {h1 : AH} (ha : adelete C h ats args = some h1) (hr : AR ρ args args') :
    ∃ w1, (Builtin.delete_ ats ty args').run C.P w = .ok (.tuple #[]) w1 ∧ Nx C low ρ h w ρ h1 w1 := by
  unfold adelete at ha
  split at ha
  · rename_i t r k h0 h1' h2'
    obtain ⟨m', p1, p2⟩ := hr.get h1'
    obtain ⟨k', q1, q2⟩ := hr.get h2'
    split at ha
    · rename_i kt et es clock hu hmo
      cases hkk : keyKind C.P kt with
      | none => simp [hkk] at ha
      | some kind =>
        obtain ⟨hukt, _⟩ := keyKind_some hkk
        simp only [hkk] at ha
        obtain ⟨hb, ha⟩ := cond_none ha
        have hb := Nat.le_of_ble_eq_true hb
        obtain ⟨r2, g, es', e1, e2, e3, e4, e5, e6⟩ := mapOf_sound s hmo p2
        cases e1; subst e3
        have hnc : ∀ c e f, Obj.map es' clock ≠ .cells c e f := by intro _ _ _ h; cases h
        cases hfn : Instr.findNow kind k es.toList 0 with
        | none => simp [hfn] at ha
        | some rr =>
          rcases findNow_rel q2 e6.list 0 rr hfn with ⟨rfl, h2⟩ | ⟨j, u, u', rfl, h2, _⟩
          · simp only [hfn] at ha; cases ha
            refine ⟨{ w with heap := w.heap.setIfInBounds g.b (.map es' clock) }, ?_, Nx.put s e4 hb e2 (.map _ e6.1 e6.2) rfl ⟨rfl, rfl, rfl⟩⟩
            simp only [Builtin.delete_, h0, p1, q1, Sem.run_bind, run_underlying hu, Result.andThen_ok, run_getObj e5 hnc, run_checkKey hkk, run_findKey hukt h2, run_setObj e5 hnc]
            rfl
          · simp only [hfn] at ha; cases ha
            have he := eraseIdx_rel e6 j
            refine ⟨{ w with heap := w.heap.setIfInBounds g.b (.map (es'.eraseIdxIfInBounds j) clock) }, ?_, Nx.put s e4 hb e2 (.map _ he.1 he.2) rfl ⟨rfl, rfl, rfl⟩⟩
            simp only [Builtin.delete_, h0, p1, q1, Sem.run_bind, run_underlying hu, Result.andThen_ok, run_getObj e5 hnc, run_checkKey hkk, run_findKey hukt h2, run_setObj e5 hnc]
            rfl
    · cases ha
  · cases ha
end
end Go.Ev
namespace Go.Ev
open Go

section
variable {C : Cfg} {low : Nat → Option Obj} {ρ : Emb} {h : AH} {w : World}

/-! ## Lengths -/
theorem alen_sound (s : Sim C low ρ h w) {ats : Array TypeId} {ty : TypeId} {args args' : Array Value} {v : Value} (ha : alen C h ats args = some v) (hr : AR ρ args args') :
    (Builtin.len_ ats ty args').run C.P w = .ok v w ∧ plainV v = true := by
  unfold alen at ha
  split at ha
  · rename_i t x h0 h1
    obtain ⟨x', p1, p2⟩ := hr.get h1
    split at ha
    · rename_i n e x2 hu
      cases ha
      exact ⟨by simp [Builtin.len_, h0, p1, run_underlying hu], rfl⟩
    · rename_i e a n c hu
      cases ha
      cases p2 <;> exact ⟨by simp [Builtin.len_, h0, p1, run_underlying hu], rfl⟩
    · rename_i kt et r hu
      simp only [Option.map_eq_some_iff] at ha
      obtain ⟨⟨es, clock⟩, hmo, rfl⟩ := ha
      obtain ⟨r2, g, es', e1, e2, e3, e4, e5, e6⟩ := mapOf_sound s hmo p2
      subst e3
      have hnc : ∀ c e f, Obj.map es' clock ≠ .cells c e f := by intro _ _ _ h; cases h
      exact ⟨by simp [Builtin.len_, h0, p1, run_underlying hu, run_getObj e5 hnc, e6.1], rfl⟩
    · rename_i arr a hu
      split at ha
      · rename_i n e hua
        cases ha
        exact ⟨by cases p2 <;> simp [Builtin.len_, h0, p1, run_underlying hu, run_underlying hua], rfl⟩
      · cases ha
    · cases ha
  · cases ha

theorem acap_sound {ats : Array TypeId} {ty : TypeId} {args args' : Array Value} {v : Value} (ha : acap C ats args = some v) (hr : AR ρ args args') :
    (Builtin.cap_ ats ty args').run C.P w = .ok v w ∧ plainV v = true := by
  unfold acap at ha
  split at ha
  · rename_i t a l c h0 h1
    obtain ⟨x', p1, p2⟩ := hr.get h1
    split at ha
    · rename_i e hu
      obtain ⟨hc, ha⟩ := cond_some ha
      subst ha
      have hc : c < big := by simpa using hc
      refine ⟨?_, rfl⟩
      cases p2 with
      | slcN => simp [Builtin.cap_, h0, p1, run_underlying hu]
      | slc => simp [Builtin.cap_, h0, p1, run_underlying hu]
      | slcO => omega
      | slcZ => omega
    · cases ha
  · cases ha

/-- An address with nothing behind it is written. -/
theorem storeN_nil {P : Program} (a' : Addr) : (storeCells a' []).run P w = .ok () w := rfl

theorem aclear_sound (s : Sim C low ρ h w) {ats : Array TypeId} {ty : TypeId} {args args' : Array Value} {h1 : AH} (ha : aclear C h ats args = some h1) (hr : AR ρ args args') :
    ∃ w1, (Builtin.clear_ ats ty args').run C.P w = .ok (.tuple #[]) w1 ∧ Nx C low ρ h w ρ h1 w1 := by
  unfold aclear at ha
  split at ha
  · rename_i t x h0 h1'
    obtain ⟨x', p1, p2⟩ := hr.get h1'
    split at ha
    · rename_i d a c hu
      cases ha
      refine ⟨w, ?_, Nx.refl s⟩
      cases p2 <;> simp [Builtin.clear_, h0, p1, run_underlying hu]
    · rename_i d r hu
      simp only [Option.bind_eq_some_iff] at ha
      obtain ⟨⟨es, clock⟩, hmo, ha⟩ := ha
      simp only at ha
      obtain ⟨hb, ha⟩ := cond_some ha
      subst ha
      have hb := Nat.le_of_ble_eq_true hb
      obtain ⟨r2, g, es', e1, e2, e3, e4, e5, e6⟩ := mapOf_sound s hmo p2
      cases e1; subst e3
      have hnc : ∀ c e f, Obj.map es' clock ≠ .cells c e f := by intro _ _ _ h; cases h
      refine ⟨{ w with heap := w.heap.setIfInBounds g.b (.map #[] clock) }, ?_, Nx.put s e4 hb e2 (.map clock rfl (by intro i e e' h1; simp at h1)) rfl ⟨rfl, rfl, rfl⟩⟩
      simp [Builtin.clear_, h0, p1, run_underlying hu, run_getObj e5 hnc, run_setObj e5 hnc]
    · rename_i e a n c hn0 hu
      simp only [Option.bind_eq_some_iff] at ha
      obtain ⟨z, hz, ha⟩ := ha
      obtain ⟨_, _, _, hp⟩ := zeroOf_some hz
      have hzr : L2 (VR ρ) (Builtin.zeroCells z.cells n).toList (Builtin.zeroCells z.cells n).toList := (AR.refl_plain (zeroCells_plain (plainA_cells hp) n)).list
      have main : ∀ a' c', AddrR ρ a a' → x' = .slice (some a') n c' → ∃ w1, (Builtin.clear_ ats ty args').run C.P w = .ok (.tuple #[]) w1 ∧ Nx C low ρ h w ρ h1 w1 := by
        intro a' c' har hx'
        subst hx'
        obtain ⟨w1, run, nx⟩ := storeN_sound s ha har hzr
        refine ⟨w1, ?_, nx⟩
        obtain ⟨m, rfl⟩ : ∃ m, n = m + 1 := ⟨n - 1, by cases n <;> simp_all⟩
        simp [Builtin.clear_, h0, p1, run_underlying hu, run_zeroValue hz, run]
      cases p2 with
      | slc har _ => exact main _ _ har rfl
      | slcO har _ _ _ => exact main _ _ har rfl
      | slcZ => simp at hn0
    · cases ha
  · cases ha

theorem lenV_rel {v v' : Value} {n : Nat} (h : lenV v = some n) (hv : VR ρ v v') : (Builtin.lenOf v').run C.P w = .ok n w := by
  unfold lenV at h
  split at h <;> first
    | (cases h; cases hv <;> simp [Builtin.lenOf])
    | cases h

theorem L2.map_same {α : Type} {f : α → Value} (hf : ∀ a, plainV (f a) = true) (l : List α) : L2 (VR ρ) (l.map f) (l.map f) := by
  induction l with
  | nil => exact .nil
  | cons a l ih => exact .cons (VR.plain ρ _ (hf a)) ih

theorem firstN_rel (s : Sim C low ρ h w) {size n : Nat} {v v' : Value} {cs : Array Value} (hf : firstN h size n v = some cs) (hv : VR ρ v v') (hz : ∀ a', v' = .slice (some a') 0 0 → n * size = 0) :
    ∃ cs', (Builtin.firstCells size n v').run C.P w = .ok cs' w ∧ AR ρ cs cs' := by
  unfold firstN at hf
  split at hf
  · rename_i a l c
    cases hv with
    | slc har _ => obtain ⟨cs', r1, r2, _⟩ := loadN_sound s hf har; exact ⟨cs', by simpa [Builtin.firstCells] using r1, r2⟩
    | slcO har _ _ _ => obtain ⟨cs', r1, r2, _⟩ := loadN_sound s hf har; exact ⟨cs', by simpa [Builtin.firstCells] using r1, r2⟩
    | @slcZ _ a' _ g hc hg hr' hs =>
      have h0 := hz a' rfl
      have hcs : cs.size = 0 := by
        rw [h0] at hf
        have har : AddrR ρ a ⟨g.b, g.o + a.off, none⟩ := ⟨g, hg, rfl, rfl, hs, rfl⟩
        exact (loadN_sound s hf har).choose_spec.2.2
      have : cs = #[] := Array.eq_empty_of_size_eq_zero hcs
      subst this
      refine ⟨#[], ?_, AR.nil ρ⟩
      simp [Builtin.firstCells, h0, loadCells, loadCellsFrom]
  · cases hf; cases hv; exact ⟨#[], by simp [Builtin.firstCells], AR.nil ρ⟩
  · rename_i b
    cases hf; cases hv
    exact ⟨(b.extract 0 n).data.map fun b => .int .u8 b.toNat, by simp [Builtin.firstCells], L2.ar (by rw [Array.toList_map]; exact L2.map_same (f := fun (b : UInt8) => Value.int .u8 b.toNat) (fun _ => rfl) _)⟩
  · cases hf

theorem acopy_sound (s : Sim C low ρ h w) {ats : Array TypeId} {ty : TypeId} {args args' : Array Value} {r : OpR} (ha : acopy C h ats args = some r) (hr : AR ρ args args') :
    ∃ v h1, r = .val v h1 ∧ plainV v = true ∧ ∃ w1, (Builtin.copy_ ats ty args').run C.P w = .ok v w1 ∧ Nx C low ρ h w ρ h1 w1 := by
  unfold acopy at ha
  split at ha
  · rename_i t base dLen c src h0 h1 h2
    obtain ⟨d', p1, p2⟩ := hr.get h1
    obtain ⟨s', q1, q2⟩ := hr.get h2
    split at ha
    · rename_i e sl hu hl
      cases hf : (sizeT C.P e).bind fun sz => firstN h sz (Nat.min sl dLen) src with
      | none => simp [hf] at ha
      | some cells =>
        simp only [hf] at ha
        simp only [Option.bind_eq_some_iff] at hf
        obtain ⟨sz, hsz, hf⟩ := hf
        have hlen := lenV_rel (C := C) (w := w) hl q2
        have hz : ∀ a', s' = .slice (some a') 0 0 → Nat.min sl dLen * sz = 0 := by
          intro a' he
          subst he
          have : (Builtin.lenOf (.slice (some a') 0 0)).run C.P w = .ok 0 w := rfl
          rw [this] at hlen; cases hlen
          simp
        obtain ⟨cells', r1, r2⟩ := firstN_rel s hf q2 hz
        cases base with
        | none =>
          simp only at ha
          obtain ⟨_, ha⟩ := cond_some ha
          subst ha
          cases p2
          refine ⟨_, _, rfl, rfl, w, ?_, Nx.refl s⟩
          simp [Builtin.copy_, h0, p1, q1, run_underlying hu, hlen, run_sizeOf hsz, r1]
        | some a =>
          simp only [Option.map_eq_some_iff] at ha
          obtain ⟨h1', hst, rfl⟩ := ha
          have main : ∀ a' c', AddrR ρ a a' → d' = .slice (some a') dLen c' → ∃ v h2, OpR.val (goInt (Nat.min sl dLen)) h1' = .val v h2 ∧ plainV v = true ∧ ∃ w1, (Builtin.copy_ ats ty args').run C.P w = .ok v w1 ∧ Nx C low ρ h w ρ h2 w1 := by
            intro a' c' har hd
            subst hd
            obtain ⟨w1, run, nx⟩ := storeN_sound s hst har r2.list
            refine ⟨_, _, rfl, rfl, w1, ?_, nx⟩
            simp [Builtin.copy_, h0, p1, q1, run_underlying hu, hlen, run_sizeOf hsz, r1, run]
          cases p2 with
          | slc har _ => exact main _ _ har rfl
          | slcO har _ _ _ => exact main _ _ har rfl
          | @slcZ _ a' _ g hc hg hr' hs =>
            have hm : Nat.min sl 0 = 0 := by simp
            rw [hm] at hf r1
            have har : AddrR ρ a ⟨g.b, g.o + a.off, none⟩ := ⟨g, hg, rfl, rfl, hs, rfl⟩
            have hc0 : cells.size = 0 := by
              unfold firstN at hf
              split at hf
              · cases q2 with
                | slc har2 _ => have := (loadN_sound s hf har2).choose_spec.2.2; simpa using this
                | slcO har2 _ _ _ => have := (loadN_sound s hf har2).choose_spec.2.2; simpa using this
                | @slcZ _ a2 _ g2 hc2 hg2 hr2 hs2 =>
                  have har2 : AddrR ρ _ ⟨g2.b, g2.o + _, none⟩ := ⟨g2, hg2, rfl, rfl, hs2, rfl⟩
                  have := (loadN_sound s hf har2).choose_spec.2.2; simpa using this
              · cases hf; rfl
              · cases hf; simp
              · cases hf
            have hce : cells = #[] := Array.eq_empty_of_size_eq_zero hc0
            subst hce
            have hce' : cells' = #[] := Array.eq_empty_of_size_eq_zero (by rw [← r2.1]; rfl)
            subst hce'
            obtain ⟨w1, run, nx⟩ := storeN_sound s hst har L2.nil
            have : w1 = w := by rw [storeN_nil] at run; cases run; rfl
            subst this
            refine ⟨_, _, rfl, rfl, w1, ?_, nx⟩
            simp [Builtin.copy_, h0, p1, q1, run_underlying hu, hlen, run_sizeOf hsz, hm, r1, storeN_nil]
    · cases ha
  · cases ha

/-! ## Conversions -/
theorem bytesOf_rel {P : Program} {g : Value → ByteArray → Sem (ForInStep ByteArray)} (hg : ∀ n r, g (.int .u8 n) r = pure (.yield (r.push (UInt8.ofNat n.toNat)))) :
    ∀ (l : List Value) (acc s : ByteArray), bytesOfCells l acc = some s → (forIn l acc g).run P w = .ok s w := by
  intro l
  induction l with
  | nil => intro acc s h; cases h; rfl
  | cons v l ih =>
    intro acc s h
    have hv : ∃ n : Nat, v = .int .u8 (Int.ofNat n) ∧ bytesOfCells l (acc.push (UInt8.ofNat n)) = some s := by
      cases v with
      | int k n =>
        cases k <;> cases n <;> first
          | (simp [bytesOfCells] at h; done)
          | exact ⟨_, rfl, h⟩
      | _ => simp [bytesOfCells] at h
    obtain ⟨n, rfl, h2⟩ := hv
    rw [List.forIn_cons, hg]
    have := ih _ _ h2
    simpa using this
end
end Go.Ev
namespace Go.Ev
open Go

section
variable {C : Cfg} {low : Nat → Option Obj} {ρ : Emb} {h : AH} {w : World}

theorem newRow_open (s : Sim C low ρ h w) {cells cells' : Array Value} {elem : TypeId} {r sz : Nat} (hsz : sizeT C.P elem = some sz) (hr : ∀ (i : Nat) (v v' : Value), cells[i]? = some v → cells'[i]? = some v' → VR ρ v v')
    (h1 : r * sz = cells'.size) (h2 : cells.size ≤ cells'.size) {f : Nat × Nat} (hf : Free cells'.size f) {w1 : World} (e : w1.heap = w.heap.push (.cells cells' elem f))
    (ev : w1.tape = w.tape ∧ w1.os = w.os ∧ w1.output = w.output) :
    Nx C low ρ h w (ρ.upd h.next ⟨w.heap.size, 0, r⟩) (h.new (.cells cells elem true false)) w1 := by
  refine Nx.new s r (o' := .cells cells' elem f) ?_ e ev
  have hcell := cellsOf_sizeT hsz
  refine .cells (fun _ => hf) (fun h => by cases h) (fun _ => ⟨by simp only [hcell]; omega, by simp only [hcell]; omega⟩) fun i v v' h1 h2 => ?_
  simp only [Nat.zero_add] at h2
  exact (hr i v v' h1 h2).mono (s.le_upd _)

theorem slcO_upd (n b r l : Nat) : VR (ρ.upd n ⟨b, 0, r⟩) (.slice (some ⟨n, 0, none⟩) l big) (.slice (some ⟨b, 0, none⟩) l r) :=
  .slcO ⟨_, Emb.upd_self _ _ _, rfl, rfl, rfl, rfl⟩ (Nat.le_refl _) (Emb.upd_self _ _ _) (by simp)

theorem cut_ge (need old : Nat) (e : TypeId) (t : Nat) : need ≤ (Question.appendCap need old e).cut t := Nat.le_add_right _ _

theorem aconvert_sound (s : Sim C low ρ h w) {src dst : TypeId} {x x' : Value} {r : OpR} (ha : aconvert C h src dst x = some r) (hx : VR ρ x x') :
    ∃ v h1, r = .val v h1 ∧ ∃ ρ1 w1 v', (convert src dst x').run C.P w = .ok v' w1 ∧ Nx C low ρ h w ρ1 h1 w1 ∧ VR ρ1 v v' := by
  unfold aconvert at ha
  split at ha
  · rename_i e b hs hd
    split at ha
    · rename_i he
      cases hsz : sizeT C.P e with
      | none => simp [hsz] at ha
      | some sz =>
        simp only [hsz] at ha
        obtain ⟨hc, ha⟩ := cond_some ha
        subst ha
        simp only [Bool.and_eq_true] at hc
        have h1 : sz = 1 := Nat.eq_of_beq_eq_true hc.2
        subst h1
        cases hx
        let cap := (Question.appendCap b.size 0 e).cut (w.tape w.drawn (.appendCap b.size 0 e))
        have hcap : b.size ≤ cap := cut_ge _ _ _ _
        let cells : Array Value := b.data.map fun b => .int .u8 b.toNat
        let cells' : Array Value := cells ++ Array.replicate (cap - b.size) (.int .u8 0)
        have hcs : cells.size = b.size := by simp [cells]
        have hcs' : cells'.size = cap := by simp [cells', hcs]; omega
        have hpl : plainA cells = true := by
          rw [plainA_iff]; intro v hv; simp only [cells, Array.toList_map, List.mem_map] at hv; obtain ⟨_, _, rfl⟩ := hv; rfl
        refine ⟨_, _, rfl, ρ.upd h.next ⟨w.heap.size, 0, cap⟩, { w with drawn := w.drawn + 1, heap := w.heap.push (.cells cells' e (cap, cap + 1)) }, .slice (some ⟨w.heap.size, 0, none⟩) b.size cap, ?_, ?_, slcO_upd _ _ _ _⟩
        · have hunf : (convert src dst (.string b)).run C.P w = (Conv.stringToBytes e b).run C.P w := by
            simp [convert, run_underlying hs, run_underlying hd, run_underlying he]
          rw [hunf]
          simp only [Conv.stringToBytes, Sem.run_bind, run_choose, Question.forced, Bool.false_eq_true, if_false, Result.andThen_ok]
          have hsh : (World.shape? { w with drawn := w.drawn + 1, heap := w.heap.push (.cells cells' e) } w.heap.size) = some (e, cap) := by
            simp [World.shape?, hcs']
          have hfz : World.freeze { w with drawn := w.drawn + 1, heap := w.heap.push (.cells cells' e) } ⟨w.heap.size, cap, none⟩ 1 = { w with drawn := w.drawn + 1, heap := w.heap.push (.cells cells' e (cap, cap + 1)) } := by
            simp only [World.freeze, Nat.one_ne_zero, if_false]
            congr 1
            apply Array.ext_getElem?
            intro j
            rw [Array.getElem?_modify]
            by_cases hj : w.heap.size = j
            · subst hj; simp
            · rw [if_neg hj, Array.getElem?_push, Array.getElem?_push]
              simp [Ne.symm hj]
          simp only [Go.newRow, Sem.run_bind, run_newObj, Result.andThen_ok, Sem.run_pure, markStringish, run_shape]
          rw [show (World.shape? { heap := w.heap.push (Obj.cells (Array.map (fun b => Value.int IntKind.u8 ↑b.toNat) b.data ++ Array.replicate ((Question.appendCap b.size 0 e).cut (w.tape w.drawn (Question.appendCap b.size 0 e)) - b.size) (Value.int IntKind.u8 0)) e), tape := w.tape, drawn := w.drawn + 1, os := w.os, output := w.output } w.heap.size) = some (e, cap) from hsh]
          simp only [run_freeze, Result.andThen_ok]
          exact congrArg (Result.ok (Value.slice (some ⟨w.heap.size, 0, none⟩) b.size cap)) hfz
        · refine newRow_open s hsz (fun i v v' h1 h2 => ?_) (by rw [hcs']; simp) (by rw [hcs', hcs]; exact hcap) ⟨Nat.le_succ _, fun i hi => by rw [hcs'] at hi; simp; omega⟩ rfl ⟨rfl, rfl, rfl⟩
          have hi := (Array.getElem?_eq_some_iff.1 h1).1
          have : cells'[i]? = cells[i]? := by simp only [cells']; rw [Array.getElem?_append, if_pos hi]
          rw [this] at h2
          exact (AR.refl_plain (ρ := ρ) hpl).2 i v v' h1 h2
    · cases ha
  · rename_i e a len c hs hd
    split at ha
    · rename_i he
      simp only [Option.bind_eq_some_iff, Option.map_eq_some_iff] at ha
      obtain ⟨cs, hl, b, hb, rfl⟩ := ha
      have main : ∀ a' c', AddrR ρ a a' → x' = .slice (some a') len c' → (convert src dst x').run C.P w = .ok (.string b) w := by
        intro a' c' har hx'
        subst hx'
        obtain ⟨cs', r1, r2, hn⟩ := loadN_sound s hl har
        have hpl : cs' = cs := by
          have hall : ∀ (l : List Value) (acc : ByteArray), bytesOfCells l acc = some b → plainL l = true := by
            intro l
            induction l with
            | nil => intro _ _; rfl
            | cons v l ih =>
              intro acc h
              cases v with
              | int k n => cases k <;> cases n <;> first | (simp [bytesOfCells] at h; done) | (simp only [plainL, plainV, Bool.true_and]; exact ih _ h)
              | _ => simp [bytesOfCells] at h
          have hp : plainA cs = true := by cases cs with | mk l => exact hall l _ hb
          exact arr_eq r2.1 fun i v v' h1 h2 => (r2.2 i v v' h1 h2).plain_eq (plainA_at hp h1)
        subst hpl
        have hunf : (convert src dst (.slice (some a') len c')).run C.P w = (Conv.bytesToString (.slice (some a') len c')).run C.P w := by
          simp [convert, run_underlying hs, run_underlying hd, run_underlying he]
        rw [hunf]
        simp only [Conv.bytesToString, Sem.run_bind, r1, Result.andThen_ok]
        rw [← Array.forIn_toList, bytesOf_rel (fun _ _ => rfl) _ _ _ hb]
        rfl
      cases hx with
      | slc har _ => exact ⟨_, _, rfl, ρ, w, _, main _ _ har rfl, Nx.refl s, .string b⟩
      | slcO har _ _ _ => exact ⟨_, _, rfl, ρ, w, _, main _ _ har rfl, Nx.refl s, .string b⟩
      | @slcZ _ a' _ g hc hg hr' hsp =>
        have har : AddrR ρ a ⟨g.b, g.o + a.off, none⟩ := ⟨g, hg, rfl, rfl, hsp, rfl⟩
        have hcs : cs = #[] := Array.eq_empty_of_size_eq_zero (loadN_sound s hl har).choose_spec.2.2
        subst hcs
        have hbe : b = .empty := by simp [bytesOfCells] at hb; exact hb.symm
        subst hbe
        refine ⟨_, _, rfl, ρ, w, .string .empty, ?_, Nx.refl s, .string _⟩
        simp [convert, run_underlying hs, run_underlying hd, run_underlying he, Conv.bytesToString, loadCells, loadCellsFrom]
    · cases ha
  · rename_i e0 e a l c hs hd
    split at ha
    · rename_i cs e' o f he hrow
      obtain ⟨hc, ha⟩ := cond_some ha
      subst ha
      simp only [Bool.and_eq_true, Bool.not_eq_true'] at hc
      obtain ⟨⟨⟨hsd, hb⟩, hf⟩, hl0⟩ := hc
      have hb := Nat.le_of_ble_eq_true hb
      have hl0 : 0 < l := by simpa using hl0
      have hsd := Nat.eq_of_beq_eq_true hsd
      subst hsd
      rw [hs] at hd; cases hd
      have main : ∀ a' c', AddrR ρ a a' → x' = .slice (some a') l c' → ∃ w1, (convert src src x').run C.P w = .ok x' w1 ∧ Nx C low ρ h w ρ h w1 := by
        intro a' c' har hx'
        subst hx'
        obtain ⟨g, e1, e2, e3, e4, e5⟩ := har
        obtain ⟨g2, c2, fz, r⟩ := s.row (rowAt_get hrow)
        have hg : g2 = g := by have := r.emb; rw [e1] at this; exact (Option.some.inj this).symm
        subst hg
        let fz' : Nat × Nat := if fz.1 == fz.2 then (c2.size, c2.size + 1) else (min fz.1 c2.size, max fz.2 (c2.size + 1))
        have hnof : Free c2.size fz' := by
          obtain ⟨hle, hz⟩ := r.hz hf
          refine ⟨by simp only [fz']; split <;> simp <;> omega, fun i hi hcon => ?_⟩
          simp only [fz'] at hcon
          by_cases heq : fz.1 = fz.2
          · simp [heq] at hcon; omega
          · simp only [beq_iff_eq, heq, if_false] at hcon
            have h1 := hz i hi
            by_cases hlo : fz.1 < c2.size
            · by_cases hlt : fz.1 < fz.2
              · exact hz fz.1 hlo ⟨Nat.le_refl _, hlt⟩
              · omega
            · omega
        refine ⟨{ w with heap := w.heap.setIfInBounds g2.b (.cells c2 e' fz') }, ?_, ?_⟩
        · have hunf : (convert src src (.slice (some a') l c')).run C.P w = (do markStringish a'; pure (.slice (some a') l c') : Sem Value).run C.P w := by
            simp [convert, run_underlying hs, run_underlying he]
          rw [hunf]
          have hsh : w.shape? a'.block = some (e', c2.size) := by simp [World.shape?, e2, r.heap]
          have hfr : w.freeze ⟨a'.block, c2.size, none⟩ 1 = { w with heap := w.heap.setIfInBounds g2.b (.cells c2 e' fz') } := by
            simp only [World.freeze, Nat.one_ne_zero, if_false, e2]
            congr 1
            apply Array.ext_getElem?
            intro j
            rw [Array.getElem?_modify]
            by_cases hj : g2.b = j
            · subst hj
              obtain ⟨h1, h2⟩ := Array.getElem?_eq_some_iff.1 r.heap
              simp [h1, h2, fz']
            · rw [if_neg hj, Array.getElem?_setIfInBounds_ne hj]
          simp only [markStringish, Sem.run_bind, run_shape, hsh, Result.andThen_ok, run_freeze, hfr, Sem.run_pure]
        · have hp := Nx.put s (o := .cells cs e' o f) (rowAt_get hrow) hb e1 (o' := .cells c2 e' fz') (.cells (fun _ => hnof) r.hx r.ho r.hc) (w' := { w with heap := w.heap.setIfInBounds g2.b (.cells c2 e' fz') }) rfl ⟨rfl, rfl, rfl⟩
          refine hp.weaken rfl fun k o2 hk => ?_
          rw [AH.get_put]
          by_cases hka : k = a.block
          · subst hka; rw [if_pos rfl, ← hk, rowAt_get hrow]
          · rw [if_neg hka]; exact hk
      cases hx with
      | slc har hcb => obtain ⟨w1, r1, r2⟩ := main _ _ har rfl; exact ⟨_, _, rfl, ρ, w1, _, r1, r2, .slc har hcb⟩
      | slcO har hcb hg hr' => obtain ⟨w1, r1, r2⟩ := main _ _ har rfl; exact ⟨_, _, rfl, ρ, w1, _, r1, r2, .slcO har hcb hg hr'⟩
      | slcZ => omega
    · cases ha
  · rename_i t a hs hd
    split at ha
    · rename_i c e o f n hrow hsz
      obtain ⟨hc, ha⟩ := cond_some ha
      subst ha
      simp only [Bool.and_eq_true] at hc
      have hoff : a.off < c.size := by simpa using hc.1
      cases hx with
      | @ptr _ a' har =>
        obtain ⟨g, e1, e2, e3, e4, e5⟩ := har
        obtain ⟨g2, c2, fz, r⟩ := s.row (rowAt_get hrow)
        have hg : g2 = g := by have := r.emb; rw [e1] at this; exact (Option.some.inj this).symm
        subst hg
        have hlt : g2.o + c.size ≤ c2.size := r.lt
        refine ⟨_, _, rfl, ρ, w, .pointer (some a'), ?_, Nx.refl s, .ptr ⟨g2, e1, e2, e3, e4, e5⟩⟩
        have hsh : w.shape? a'.block = some (e, c2.size) := by simp [World.shape?, e2, r.heap]
        have hno : ¬ c2.size ≤ a'.off := by omega
        have h0 : (sizeOf t).run C.P w = .ok (n + 1) w := run_sizeOf hsz w
        simp [convert, run_underlying hs, run_underlying hd, Conv.unsafePointer, Conv.seenAt, viewAt, hsh, cellsIn, hno, h0]
    · cases ha
  · rename_i u a hs hd
    split at ha
    · rename_i c e f hrow
      obtain ⟨hc, ha⟩ := cond_some ha
      subst ha
      simp only [Bool.and_eq_true] at hc
      obtain ⟨hl, hsu⟩ := hc
      cases hx with
      | @ptr _ a' har =>
        obtain ⟨g, e1, e2, e3, e4, e5⟩ := har
        obtain ⟨g2, c2, fz, r⟩ := s.row (rowAt_get hrow)
        have hg : g2 = g := by have := r.emb; rw [e1] at this; exact (Option.some.inj this).symm
        subst hg
        obtain ⟨hg0, hcs⟩ := r.hx rfl
        refine ⟨_, _, rfl, ρ, w, .pointer (some a'), ?_, Nx.refl s, .ptr ⟨g2, e1, e2, e3, e4, e5⟩⟩
        have hsh : w.shape? a'.block = some (e, c2.size) := by simp [World.shape?, e2, r.heap]
        have hoff : a'.off = a.off := by omega
        cases hsz : sizeT C.P u with
        | none => simp [hsz] at hsu
        | some n =>
          have h0 : (sizeOf u).run C.P w = .ok n w := run_sizeOf hsz w
          simp [convert, run_underlying hs, run_underlying hd, Conv.unsafePointer, Conv.seenAt, viewAt, hsh, h0, variablesAt, hcs, hoff, hl]
    · cases ha
  · cases ha
end
end Go.Ev
namespace Go.Ev
open Go

section
variable {C : Cfg} {low : Nat → Option Obj} {ρ : Emb} {h : AH} {w : World}

/-! ## Iterators -/
theorem L2.filter {α β : Type} {R : α → β → Prop} {p : α → Bool} {q : β → Bool} (hpq : ∀ a b, R a b → q b = p a) {l : List α} {m : List β} (h : L2 R l m) : L2 R (l.filter p) (m.filter q) := by
  induction h with
  | nil => exact .nil
  | @cons a b l m hh _ ih =>
    rw [List.filter_cons, List.filter_cons, hpq a b hh]
    cases p a
    · exact ih
    · exact .cons hh ih
theorem L2.all {α β : Type} {R : α → β → Prop} {p : α → Bool} {q : β → Bool} (hpq : ∀ a b, R a b → q b = p a) {l : List α} {m : List β} (h : L2 R l m) : m.all q = l.all p := by
  induction h with
  | nil => rfl
  | cons hh _ ih => simp [hpq _ _ hh, ih]
theorem EsR.filter {es es' : Array MapEntry} (h : EsR ρ es es') {p : MapEntry → Bool} (hp : ∀ e e' : MapEntry, e'.born = e.born → p e' = p e) : EsR ρ (es.filter p) (es'.filter p) := by
  apply L2.es
  rw [Array.toList_filter, Array.toList_filter]
  exact h.list.filter fun a b hab => hp a b hab.2.2
theorem EsR.append {a a' b b' : Array MapEntry} (h : EsR ρ a a') (h' : EsR ρ b b') : EsR ρ (a ++ b) (a' ++ b') := by
  apply L2.es
  rw [Array.toList_append, Array.toList_append]
  exact h.list.append h'.list

def candOf (since : Nat) (seen : Array Nat) (es : Array MapEntry) : Array (Option MapEntry) :=
  let left := es.filter fun e => !seen.contains e.born
  let old := left.filter (·.born < since)
  let new := left.filter (·.born ≥ since)
  (if old.isEmpty then #[none] else #[]) ++ (old ++ new).map some

def OEntR (ρ : Emb) (a b : Option MapEntry) : Prop := (a = none ∧ b = none) ∨ ∃ e e', a = some e ∧ b = some e' ∧ EntR ρ e e'

theorem candOf_rel {es es' : Array MapEntry} (he : EsR ρ es es') (since : Nat) (seen : Array Nat) :
    (candOf since seen es').size = (candOf since seen es).size ∧ ∀ (i : Nat) (x x' : Option MapEntry), (candOf since seen es)[i]? = some x → (candOf since seen es')[i]? = some x' → OEntR ρ x x' := by
  have hl := he.filter (p := fun e => !seen.contains e.born) (fun e e' hb => by simp only [hb])
  have ho := hl.filter (p := fun e => decide (e.born < since)) (fun e e' hb => by simp only [hb])
  have hn := hl.filter (p := fun e => decide (e.born ≥ since)) (fun e e' hb => by simp only [hb])
  have hoe : (((es'.filter fun e => !seen.contains e.born).filter (·.born < since)).isEmpty) = (((es.filter fun e => !seen.contains e.born).filter (·.born < since)).isEmpty) := by
    simp only [Array.isEmpty]; rw [ho.1]
  have hap := ho.append hn
  have key : L2 (OEntR ρ) (candOf since seen es).toList (candOf since seen es').toList := by
    simp only [candOf]
    rw [hoe, Array.toList_append, Array.toList_append]
    refine L2.append ?_ ?_
    · split
      · exact .cons (.inl ⟨rfl, rfl⟩) .nil
      · exact .nil
    · rw [Array.toList_map, Array.toList_map]
      have : ∀ (l m : List MapEntry), L2 (EntR ρ) l m → L2 (OEntR ρ) (l.map some) (m.map some) := by
        intro l m hlm
        induction hlm with
        | nil => exact .nil
        | cons hh _ ih => exact .cons (.inr ⟨_, _, rfl, rfl, hh⟩) ih
      exact this _ _ hap.list
  exact ⟨by simpa using key.length.symm, fun i x x' h1 h2 => key.at i x x' (by simpa using h1) (by simpa using h2)⟩

/-- What 'next' does behind its choice. -/
def nextTake (r m since clock : Nat) (seen : Array Nat) : Option (Option MapEntry) → Sem Value
  | some (some e) => do
    setObj r (.mapIter (some m) since (seen.push e.born) clock)
    pure (.tuple #[.bool true, e.key, e.val])
  | some none => pure (.tuple #[.bool false])
  | none => stuck "Next: no such candidate"

theorem pair3 {a b a' b' : Value} (h1 : VR ρ a a') (h2 : VR ρ b b') : VR ρ (.tuple #[.bool true, a, b]) (.tuple #[.bool true, a', b']) := by
  have := ((AR.single (VR.bool (ρ := ρ) true)).append (AR.single h1)).append (AR.single h2)
  exact .tuple this.1 this.2

theorem anext_sound (s : Sim C low ρ h w) {it it' : Value} {isS : Bool} {r : OpR} {ty : TypeId} (ha : anext h C.base it isS = some r) (hi : VR ρ it it') :
    (∃ v h1, r = .val v h1 ∧ ∃ ρ1 w1 v', (Instr.next it' isS ty).run C.P w = .ok v' w1 ∧ Nx C low ρ h w ρ1 h1 w1 ∧ VR ρ1 v v') ∨
    (∃ n f, r = .pick n f ∧ ∃ i, i < n ∧ ∀ v h1, f i = some (v, h1) → ∃ ρ1 w1 v', (Instr.next it' isS ty).run C.P w = .ok v' w1 ∧ Nx C low ρ h w ρ1 h1 w1 ∧ VR ρ1 v v') := by
  unfold anext at ha
  split at ha
  · rename_i k sp
    have hcn := cond_none ha
    clear ha
    obtain ⟨hb, ha⟩ := hcn
    have hb := Nat.le_of_ble_eq_true hb
    cases hi with
    | @ptr _ a' har =>
      obtain ⟨g, e1, e2, e3, e4, e5⟩ := har
      split at ha
      · rename_i b pos hk
        obtain ⟨g2, o', f1, f2, f3⟩ := s.live k _ hk
        simp only at e1
        rw [e1] at f1; cases f1
        cases f3 with
        | str _ _ hg0 =>
          have ha' : a' = ⟨g.b, 0, none⟩ := by cases a'; simp_all
          subst ha'
          have hnc : ∀ c e f, Obj.stringIter b pos ≠ .cells c e f := by intro _ _ _ h; cases h
          left
          split at ha
          · rename_i hlt
            simp only at ha
            cases ha
            refine ⟨_, _, rfl, ρ, { w with heap := w.heap.setIfInBounds g.b (.stringIter b (pos + (Utf8.decode b pos).2)) }, .tuple #[.bool true, goInt pos, .int .i32 (Utf8.decode b pos).1], ?_,
              Nx.put s hk hb e1 (.str b _ hg0) rfl ⟨rfl, rfl, rfl⟩, VR.plain _ _ rfl⟩
            simp [Instr.next, run_getObj f2 hnc, hlt, run_setObj f2 hnc]
          · rename_i hlt
            cases ha
            refine ⟨_, _, rfl, ρ, w, .tuple #[.bool false], ?_, Nx.refl s, VR.plain _ _ rfl⟩
            simp [Instr.next, run_getObj f2 hnc, hlt]
      · rename_i since seen last hk
        obtain ⟨g2, o', f1, f2, f3⟩ := s.live k _ hk
        simp only at e1
        rw [e1] at f1; cases f1
        cases f3 with
        | iterN _ _ _ hg0 =>
          have ha' : a' = ⟨g.b, 0, none⟩ := by cases a'; simp_all
          subst ha'
          have hnc : ∀ c e f, Obj.mapIter none since seen last ≠ .cells c e f := by intro _ _ _ h; cases h
          left
          cases ha
          exact ⟨_, _, rfl, ρ, w, .tuple #[.bool false], by simp [Instr.next, run_getObj f2 hnc], Nx.refl s, VR.plain _ _ rfl⟩
      · rename_i m since seen last hk
        obtain ⟨g2, o', f1, f2, f3⟩ := s.live k _ hk
        simp only at e1
        rw [e1] at f1; cases f1
        cases f3 with
        | @iter _ gm hm _ _ _ hg0 =>
          have ha' : a' = ⟨g.b, 0, none⟩ := by cases a'; simp_all
          subst ha'
          have hnc : ∀ c e f, Obj.mapIter (some gm.b) since seen last ≠ .cells c e f := by intro _ _ _ h; cases h
          split at ha
          · rename_i es clock hmk
            obtain ⟨gm2, o2, m1, m2, m3⟩ := s.live m _ hmk
            rw [hm] at m1; cases m1
            cases m3 with
            | @map _ es' _ hs he =>
              have hes : EsR ρ es es' := ⟨hs, he⟩
              have hnc2 : ∀ c e f, Obj.map es' clock ≠ .cells c e f := by intro _ _ _ h; cases h
              obtain ⟨hcsz, hcr⟩ := candOf_rel hes since seen
              have hcond : (!seen.isEmpty && !es'.isEmpty && es'.all (·.born ≥ last)) = (!seen.isEmpty && !es.isEmpty && es.all (·.born ≥ last)) := by
                have h1 : es'.isEmpty = es.isEmpty := by simp only [Array.isEmpty]; rw [hs]
                have h2 : (es'.all fun e => decide (e.born ≥ last)) = es.all fun e => decide (e.born ≥ last) := by
                  rw [← Array.all_toList, ← Array.all_toList]
                  exact hes.list.all fun a b hab => by rw [hab.2.2]
                rw [h1, h2]
              cases hcd : (!seen.isEmpty && !es.isEmpty && es.all (·.born ≥ last)) with
              | true => rw [hcd] at ha; cases ha
              | false =>
                rw [hcd] at ha
                simp only [cond_false] at ha
                have hrun : (Instr.next (.pointer (some ⟨g.b, 0, none⟩)) false ty).run C.P w =
                    (do nextTake g.b gm.b since clock seen ((candOf since seen es')[← choose (.mapNext (candOf since seen es').size)]?) : Sem Value).run C.P w := by
                  have hcd' := hcond.trans hcd
                  unfold Instr.next
                  simp only [Sem.run_bind, run_getObj f2 hnc, Result.andThen_ok, run_getObj m2 hnc2, hcd', Bool.false_eq_true, if_false]
                  rfl
                -- one candidate taken in a world that lies alike
                have take : ∀ (i : Nat) (w0 : World) (v : Value) (h1 : AH), w0.heap = w.heap → (w0.tape = w.tape ∧ w0.os = w.os ∧ w0.output = w.output) →
                    (match (candOf since seen es)[i]? with
                      | some (some e) => some (Value.tuple #[.bool true, e.key, e.val], h.put k (.mapIter (some m) since (seen.push e.born) clock))
                      | some none => some (.tuple #[.bool false], h)
                      | none => none) = some (v, h1) →
                    ∃ ρ1 w1 v', (nextTake g.b gm.b since clock seen (candOf since seen es')[i]?).run C.P w0 = .ok v' w1 ∧ Nx C low ρ h w ρ1 h1 w1 ∧ VR ρ1 v v' := by
                  intro i w0 v h1 hw hev ht
                  cases hc : (candOf since seen es)[i]? with
                  | none => simp [hc] at ht
                  | some x =>
                    have hi := (Array.getElem?_eq_some_iff.1 hc).1
                    have hi' : i < (candOf since seen es').size := by rw [hcsz]; exact hi
                    have hc' : (candOf since seen es')[i]? = some (candOf since seen es')[i] := by simp [hi']
                    have f2' : w0.heap[g.b]? = some (.mapIter (some gm.b) since seen last) := by rw [hw]; exact f2
                    rw [hc]at ht
                    rw [hc']
                    rcases hcr i x _ hc hc' with ⟨rfl, h2⟩ | ⟨e, e', rfl, h2, h3⟩
                    · rw [h2]
                      simp only at ht; cases ht
                      exact ⟨ρ, w0, .tuple #[.bool false], rfl, Nx.same s hw hev, VR.plain _ _ rfl⟩
                    · rw [h2]
                      simp only at ht; cases ht
                      refine ⟨ρ, { w0 with heap := w.heap.setIfInBounds g.b (.mapIter (some gm.b) since (seen.push e'.born) clock) }, .tuple #[.bool true, e'.key, e'.val], ?_, ?_, pair3 h3.1 h3.2.1⟩
                      · simp [nextTake, run_setObj f2' hnc, hw]
                      · rw [h3.2.2]
                        exact Nx.put s hk hb e1 (.iter hm _ _ _ hg0) rfl hev
                have hca : ((if ((es.filter fun e => !seen.contains e.born).filter (·.born < since)).isEmpty then #[none] else #[]) ++
                    ((es.filter fun e => !seen.contains e.born).filter (·.born < since) ++ (es.filter fun e => !seen.contains e.born).filter (·.born ≥ since)).map some) = candOf since seen es := rfl
                simp only [hca] at ha
                by_cases hle : (candOf since seen es).size ≤ 1
                · rw [if_pos hle] at ha
                  left
                  simp only [Option.map_eq_some_iff] at ha
                  obtain ⟨⟨v, h1⟩, ht, rfl⟩ := ha
                  obtain ⟨ρ1, w1, v', r1, r2, r3⟩ := take 0 w v h1 rfl ⟨rfl, rfl, rfl⟩ ht
                  refine ⟨v, h1, rfl, ρ1, w1, v', ?_, r2, r3⟩
                  rw [hrun, Sem.run_bind, run_choose]
                  have : (Question.mapNext (candOf since seen es').size).forced = true := by simp [Question.forced, hcsz, hle]
                  rw [if_pos this]
                  exact r1
                · rw [if_neg hle] at ha
                  right
                  cases ha
                  have hnf : ¬ (Question.mapNext (candOf since seen es').size).forced = true := by simp [Question.forced, hcsz, hle]
                  let t := w.tape w.drawn (Question.mapNext (candOf since seen es').size)
                  refine ⟨_, _, rfl, t % (candOf since seen es').size, ?_, fun v h1 ht => ?_⟩
                  · rw [hcsz]; exact Nat.mod_lt _ (by omega)
                  · obtain ⟨ρ1, w1, v', r1, r2, r3⟩ := take (t % (candOf since seen es').size) { w with drawn := w.drawn + 1 } v h1 rfl ⟨rfl, rfl, rfl⟩ ht
                    refine ⟨ρ1, w1, v', ?_, r2, r3⟩
                    rw [hrun, Sem.run_bind, run_choose, if_neg hnf]
                    exact r1
          · cases ha
      · cases ha
  · cases ha

theorem aentry_sound (s : Sim C low ρ h w) {it it' v : Value} (ha : aentry h it = some v) (hi : VR ρ it it') :
    ∃ v', (Instr.entry it').run C.P w = .ok v' w ∧ VR ρ v v' := by
  unfold aentry at ha
  split at ha
  · rename_i k sp
    cases hi with
    | @ptr _ a' har =>
      obtain ⟨g, e1, e2, e3, e4, e5⟩ := har
      split at ha
      · rename_i m since seen stepped hk
        obtain ⟨g2, o', f1, f2, f3⟩ := s.live k _ hk
        simp only at e1
        rw [e1] at f1; cases f1
        cases f3 with
        | @iter _ gm hm _ _ _ hg0 =>
          have ha' : a' = ⟨g.b, 0, none⟩ := by cases a'; simp_all
          subst ha'
          have hnc : ∀ c e f, Obj.mapIter (some gm.b) since seen stepped ≠ .cells c e f := by intro _ _ _ h; cases h
          split at ha
          · rename_i stamp es clock hback hmk
            obtain ⟨gm2, o2, m1, m2, m3⟩ := s.live m _ hmk
            rw [hm] at m1; cases m1
            cases m3 with
            | @map _ es' _ hs he =>
              have hes : EsR ρ es es' := ⟨hs, he⟩
              have hnc2 : ∀ c e f, Obj.map es' clock ≠ .cells c e f := by intro _ _ _ h; cases h
              cases hcs : (clock != stepped) with
              | true => rw [hcs] at ha; cases ha
              | false =>
                rw [hcs] at ha
                simp only [cond_false, Option.map_eq_some_iff] at ha
                obtain ⟨e, hf, rfl⟩ := ha
                have hfind : ∃ e', es'.find? (·.born == stamp) = some e' ∧ EntR ρ e e' := by
                  rw [← Array.find?_toList] at hf ⊢
                  have := hes.list
                  revert hf this
                  generalize es.toList = l
                  generalize es'.toList = m
                  intro hf hlm
                  induction hlm with
                  | nil => simp at hf
                  | @cons a b l m hh _ ih =>
                    rw [List.find?_cons] at hf ⊢
                    rw [hh.2.2]
                    cases hab : (a.born == stamp) with
                    | true => rw [hab] at hf; cases hf; exact ⟨b, rfl, hh⟩
                    | false => rw [hab] at hf; exact ih hf
                obtain ⟨e', h1, h2⟩ := hfind
                have hp := (AR.single h2.1).append (AR.single h2.2.1)
                refine ⟨.tuple #[e'.key, e'.val], ?_, .tuple hp.1 hp.2⟩
                have hcs' : clock = stepped := by simpa using hcs
                simp [Instr.entry, run_getObj f2 hnc, hback, run_getObj m2 hnc2, hcs', h1]
          · cases ha
      · cases ha
  · cases ha
end
end Go.Ev
namespace Go.Ev
open Go

section
variable {C : Cfg} {low : Nat → Option Obj} {ρ : Emb} {h : AH} {w : World}

theorem growBy_le (need : Nat) : ∀ (r c : Nat), c ≤ need → Builtin.growBy need r c ≤ need + (need + 768) / 4
  | 0, c, h => by simp only [Builtin.growBy]; omega
  | r + 1, c, h => by
    simp only [Builtin.growBy]
    split
    · omega
    · by_cases hc : c + (c + 768) / 4 ≤ need
      · exact growBy_le need r _ hc
      · have : Builtin.growBy need r (c + (c + 768) / 4) = c + (c + 768) / 4 := by
          cases r with
          | zero => rfl
          | succ r => simp only [Builtin.growBy]; rw [if_pos (by omega)]
        rw [this]; omega

theorem nextCap_le {need c : Nat} (h : c < need) : Builtin.nextslicecap need c ≤ 2 * need + 1024 := by
  unfold Builtin.nextslicecap
  split
  · omega
  · split
    · omega
    · have := growBy_le need 4 c (by omega); omega

/-- What is appended, as the program reckons it. -/
structure NewR (C : Cfg) (ρ : Emb) (w : World) (ats : Array TypeId) (elem : TypeId) (size n : Nat) (zeros : Bool) (x' : Value) (new new' : Array Value) : Prop where
  rel : AR ρ new new'
  zs : (zeros = false ∧ (ats[1]? = none ∨ ∃ xt d, ats[1]? = some xt ∧ C.P.underlying xt = some d ∧ ∀ k, d ≠ .int k) ∧ (∀ w1, (Builtin.lenOf x').run C.P w1 = .ok n w1) ∧
          ∀ w1 : World, w1.heap = w.heap → (Builtin.firstCells size n x').run C.P w1 = .ok new' w1) ∨
    (zeros = true ∧ (∃ xt k, ats[1]? = some xt ∧ C.P.underlying xt = some (.int k)) ∧ x' = .int .i64 n ∧
      ∃ z i, zeroOf C.P elem = some z ∧ C.P.info? elem = some i ∧ n * i.bytes ≤ 2 ^ 40 ∧ 0 < i.bytes ∧ z.cells.size = size ∧ new' = Builtin.zeroCells z.cells n)

theorem appNew_sound (s : Sim C low ρ h w) {ats : Array TypeId} {elem : TypeId} {size : Nat} {i : TypeInfo} {z x x' : Value} {n : Nat} {new : Array Value} {zeros : Bool}
    (hi : C.P.info? elem = some i) (hib : 0 < i.bytes) (hzs : z.cells.size = size) (hz : zeroOf C.P elem = some z) (ha : appNew C h ats size i.bytes z x = some (n, new, zeros)) (hx : VR ρ x x') :
    ∃ new', NewR C ρ w ats elem size n zeros x' new new' := by
  have plain : (match lenV x with
      | some n => (firstN h size n x).map fun cs => (n, cs, false)
      | none => none) = some (n, new, zeros) → (ats[1]? = none ∨ ∃ xt d, ats[1]? = some xt ∧ C.P.underlying xt = some d ∧ ∀ k, d ≠ .int k) → ∃ new', NewR C ρ w ats elem size n zeros x' new new' := by
    intro hp hat
    cases hl : lenV x with
    | none => simp [hl] at hp
    | some m =>
      simp only [hl, Option.map_eq_some_iff, Prod.mk.injEq] at hp
      obtain ⟨cs, hf, rfl, rfl, rfl⟩ := hp
      have hlen : ∀ w1, (Builtin.lenOf x').run C.P w1 = .ok m w1 := fun w1 => lenV_rel (C := C) hl hx
      have hz0 : ∀ a', x' = .slice (some a') 0 0 → m * size = 0 := by
        intro a' he
        subst he
        have h1 : (Builtin.lenOf (.slice (some a') 0 0)).run C.P w = .ok 0 w := rfl
        have := hlen w
        rw [h1] at this; cases this; simp
      obtain ⟨new', r1, r2⟩ := firstN_rel s hf hx hz0
      refine ⟨new', r2, .inl ⟨rfl, hat, hlen, fun w1 hw => ?_⟩⟩
      obtain ⟨new2, q1, q2⟩ := firstN_rel (s.same hw) hf hx hz0
      -- the same cells are read in a world that lies alike
      have hdet : ∀ (a' : Addr) (k : Nat) (c1 c2 : Array Value), (loadCells a' k).run C.P w = .ok c1 w → (loadCells a' k).run C.P w1 = .ok c2 w1 → c1 = c2 := by
        intro a' k c1 c2 e1 e2
        have gen : ∀ (k i : Nat) (acc c1 c2 : Array Value), (loadCellsFrom a' i k acc).run C.P w = .ok c1 w → (loadCellsFrom a' i k acc).run C.P w1 = .ok c2 w1 → c1 = c2 := by
          intro k
          induction k with
          | zero => intro i acc c1 c2 e1 e2; cases e1; cases e2; rfl
          | succ k ih =>
            intro i acc c1 c2 e1 e2
            have hc : w1.cell? (a'.add i) = w.cell? (a'.add i) := by simp [World.cell?, hw]
            have hfar : w1.farLoad C.P (a'.add i) (Mode.plain == .atomic) = w.farLoad C.P (a'.add i) (Mode.plain == .atomic) := by
              simp only [World.farLoad, hw, World.viewLoad, World.seen, World.noCell]
            simp only [loadCellsFrom, Sem.run_bind, run_load, hc, hfar] at e1 e2
            cases hcc : w.cell? (a'.add i) with
            | some v => simp only [hcc, Result.andThen_ok] at e1 e2; exact ih _ _ _ _ e1 e2
            | none =>
              simp only [hcc] at e1 e2
              cases hff : w.farLoad C.P (a'.add i) (Mode.plain == .atomic) with
              | ok y => obtain ⟨v, _⟩ := y; simp only [hff, Result.andThen_ok] at e1 e2; exact ih _ _ _ _ e1 e2
              | error e => simp only [hff, Result.andThen_halt] at e1; cases e1
        exact gen k 0 #[] c1 c2 e1 e2
      have : new2 = new' := by
        cases x' with
        | slice a' l c =>
          cases a' with
          | none => simp only [Builtin.firstCells, Sem.run_pure, Result.ok.injEq, and_true] at r1 q1; rw [← r1, ← q1]
          | some a' => simp only [Builtin.firstCells] at r1 q1; exact (hdet _ _ _ _ r1 q1).symm
        | string b => simp only [Builtin.firstCells, Sem.run_pure, Result.ok.injEq, and_true] at r1 q1; rw [← r1, ← q1]
        | _ => simp [Builtin.firstCells] at r1
      rw [q1, this]
  unfold appNew at ha
  simp only at ha
  split at ha
  · rename_i hat; exact plain ha (.inl hat)
  · rename_i xt hat
    split at ha
    · rename_i k hu
      split at ha
      · rename_i l
        obtain ⟨hc, ha⟩ := cond_some ha
        simp only [Prod.mk.injEq] at ha
        obtain ⟨rfl, rfl, rfl⟩ := ha
        have := hx.int_inv; subst this
        obtain ⟨_, _, _, hp⟩ := zeroOf_some hz
        exact ⟨_, AR.refl_plain (zeroCells_plain (plainA_cells hp) _), .inr ⟨rfl, ⟨xt, k, hat, hu⟩, rfl, z, i, hz, hi, Nat.le_of_ble_eq_true hc, hib, hzs, rfl⟩⟩
      · cases ha
    · rename_i d hnd hu
      exact plain ha (.inr ⟨xt, d, hat, hu, fun k hk => hnd k hk⟩)
    · cases ha

/-- Where there is room. -/
theorem append_room {P : Program} {ats : Array TypeId} {ty sType elem : TypeId} {args' : Array Value} {base' : Option Addr} {sLen sCap' size n : Nat} {zeros : Bool} {x' : Value} {new new' : Array Value}
    {C : Cfg} (hP : C.P = P) (h0 : ats[0]? = some sType) (p1 : args'[0]? = some (.slice base' sLen sCap')) (q1 : args'[1]? = some x') (hu : P.underlying sType = some (.slice elem)) (hsz : sizeT P elem = some size)
    (hn : NewR C ρ w ats elem size n zeros x' new new') (hle : sLen + n ≤ sCap') {w1 : World}
    (hst : (match base' with | some a => storeCells (a.add (sLen * size)) new'.toList | none => pure () : Sem Unit).run P w = .ok () w1) :
    (Builtin.append_ ats ty args').run P w = .ok (.slice base' (sLen + n) sCap') w1 := by
  subst hP
  rcases hn.zs with ⟨rfl, hat, hlen, hfc⟩ | ⟨rfl, ⟨xt, k, hat, hux⟩, rfl, z, i, hz, hi, hb, hib, hzs, rfl⟩
  · have hfc := hfc w rfl
    rcases hat with hat | ⟨xt, d, hat, hux, hd⟩
    · simp only [Builtin.append_, h0, p1, q1, hat, Sem.run_bind, run_underlying hu, Result.andThen_ok, run_sizeOf hsz, Sem.run_pure, Bool.false_eq_true, if_false, hlen, hle, if_true, Bool.not_false, hfc]
      cases base' with
      | none => simp only [Sem.run_pure] at hst; cases hst; rfl
      | some a => simp only at hst; simp only [Sem.run_bind, hst, Result.andThen_ok]; rfl
    · have key : ∀ d, C.P.underlying xt = some d → (∀ k, d ≠ .int k) → (Builtin.append_ ats ty args').run C.P w = .ok (.slice base' (sLen + n) sCap') w1 := by
        intro d hux hd
        cases d
        case int k => exact absurd rfl (hd k)
        all_goals
          simp only [Builtin.append_, h0, p1, q1, hat, Sem.run_bind, run_underlying hu, run_underlying hux, Result.andThen_ok, run_sizeOf hsz, Sem.run_pure, Bool.false_eq_true, if_false, hlen, hle, if_true, Bool.not_false, hfc]
          cases base' with
          | none => simp only [Sem.run_pure] at hst; cases hst; rfl
          | some a => simp only at hst; simp only [Sem.run_bind, hst, Result.andThen_ok]; rfl
      exact key d hux hd
  · have hti : (typeInfo elem).run C.P w = .ok i w := run_typeInfo hi w
    have hl : n ≤ 2 ^ 40 := Nat.le_trans (Nat.le_mul_of_pos_right n hib) hb
    have hwrap : IntKind.i64.wrap (n : Int) = n := wrap_small n (by omega) (by omega)
    have hneg : ¬ ((n : Int) < 0) := by omega
    have hbig : ¬ ((n : Int) * (i.bytes : Int) > 2 ^ 48) := by
      have : ((n * i.bytes : Nat) : Int) ≤ 2 ^ 40 := by exact_mod_cast hb
      push_cast at this; omega
    have hint : (asInt (.int .i64 n)).run C.P w = .ok n w := rfl
    by_cases hn0 : n * size = 0
    · have hze : Builtin.zeroCells z.cells n = #[] := Array.eq_empty_of_size_eq_zero (by simp [Builtin.zeroCells, hzs, hn0])
      rw [hze] at hst
      simp only [Builtin.append_, h0, p1, q1, hat, Sem.run_bind, run_underlying hu, run_underlying hux, Result.andThen_ok, run_sizeOf hsz, Sem.run_pure, if_true, hint, hwrap, hneg, if_false, hti, hbig, Int.toNat_natCast, hle, Bool.not_true, Bool.false_eq_true, hn0]
      cases base' with
      | none => simp only [Sem.run_pure] at hst; cases hst; rfl
      | some a => simp only at hst; simp only [Sem.run_bind, hst, Result.andThen_ok]; rfl
    · simp only [Builtin.append_, h0, p1, q1, hat, Sem.run_bind, run_underlying hu, run_underlying hux, Result.andThen_ok, run_sizeOf hsz, Sem.run_pure, if_true, hint, hwrap, hneg, if_false, hti, hbig, Int.toNat_natCast, hle, Bool.not_true, Bool.false_eq_true, hn0, run_zeroValue hz]
      cases base' with
      | none => simp only [Sem.run_pure] at hst; cases hst; rfl
      | some a => simp only at hst; simp only [Sem.run_bind, hst, Result.andThen_ok]; rfl

/-- Where there is none: a new row. -/
theorem append_grow {ats : Array TypeId} {ty sType elem : TypeId} {args' : Array Value} {base' : Option Addr} {sLen sCap' size n : Nat} {zeros : Bool} {x' : Value} {new new' old' : Array Value}
    {i : TypeInfo} {z : Value}
    (h0 : ats[0]? = some sType) (p1 : args'[0]? = some (.slice base' sLen sCap')) (q1 : args'[1]? = some x') (hu : C.P.underlying sType = some (.slice elem)) (hsz : sizeT C.P elem = some size)
    (hn : NewR C ρ w ats elem size n zeros x' new new') (hle : ¬ sLen + n ≤ sCap') (hi : C.P.info? elem = some i) (hz : zeroOf C.P elem = some z) (hib : 0 < i.bytes) (hb : (2 * (sLen + n) + 1024) * i.bytes ≤ 2 ^ 40)
    (hold : (Builtin.firstCells size sLen (.slice base' sLen sCap')).run C.P { w with drawn := w.drawn + 1 } = .ok old' { w with drawn := w.drawn + 1 }) :
    ∃ cap, sLen + n ≤ cap ∧ (Builtin.append_ ats ty args').run C.P w = .ok (.slice (some ⟨w.heap.size, 0, none⟩) (sLen + n) cap)
      { w with drawn := w.drawn + 1, heap := w.heap.push (.cells (old' ++ new' ++ Builtin.zeroCells z.cells (cap - (sLen + n))) elem) } := by
  have hti : ∀ w, (typeInfo elem).run C.P w = .ok i w := fun w => run_typeInfo hi w
  have hneed : sLen + n ≤ 2 ^ 40 := by
    have h1 : 2 * (sLen + n) + 1024 ≤ (2 * (sLen + n) + 1024) * i.bytes := Nat.le_mul_of_pos_right _ hib
    omega
  have hmax : ¬ (((sLen + n : Nat) : Int) > IntKind.i64.max) := by
    have : IntKind.i64.max = 9223372036854775807 := rfl
    rw [this]; omega
  have hnext : ¬ (Builtin.nextslicecap (sLen + n) sCap' * i.bytes > 2 ^ 48) := by
    have h1 : Builtin.nextslicecap (sLen + n) sCap' ≤ 2 * (sLen + n) + 1024 := nextCap_le (by omega)
    have h2 := Nat.mul_le_mul_right i.bytes h1
    omega
  refine ⟨(Question.appendCap (sLen + n) sCap' elem).cut (w.tape w.drawn (.appendCap (sLen + n) sCap' elem)), cut_ge _ _ _ _, ?_⟩
  have hforced : (Question.appendCap (sLen + n) sCap' elem).forced = false := rfl
  rcases hn.zs with ⟨rfl, hat, hlen, hfc⟩ | ⟨rfl, ⟨xt, k, hat, hux⟩, rfl, z2, i2, hz2, hi2, hb2, hib2, hzs, rfl⟩
  · have hfc := hfc { w with drawn := w.drawn + 1 } rfl
    rcases hat with hat | ⟨xt, d, hat, hux, hd⟩
    · simp only [Builtin.append_, h0, p1, q1, hat, Sem.run_bind, run_underlying hu, Result.andThen_ok, run_sizeOf hsz, Sem.run_pure, Bool.false_eq_true, if_false, hlen, hle, Bool.not_false, if_true, hfc, hmax, false_and, if_false, Sem.run_bind, hti, Result.andThen_ok, hnext, run_choose, hforced, Bool.false_eq_true, run_askRoom, hold, run_zeroValue hz, Go.newRow, run_newObj, Sem.run_pure]
    · have key : ∀ d, C.P.underlying xt = some d → (∀ k, d ≠ .int k) → (Builtin.append_ ats ty args').run C.P w = .ok (.slice (some ⟨w.heap.size, 0, none⟩) (sLen + n) ((Question.appendCap (sLen + n) sCap' elem).cut (w.tape w.drawn (.appendCap (sLen + n) sCap' elem))))
          { w with drawn := w.drawn + 1, heap := w.heap.push (.cells (old' ++ new' ++ Builtin.zeroCells z.cells ((Question.appendCap (sLen + n) sCap' elem).cut (w.tape w.drawn (.appendCap (sLen + n) sCap' elem)) - (sLen + n))) elem) } := by
        intro d hux hd
        cases d
        case int k => exact absurd rfl (hd k)
        all_goals
          simp only [Builtin.append_, h0, p1, q1, hat, Sem.run_bind, run_underlying hu, run_underlying hux, Result.andThen_ok, run_sizeOf hsz, Sem.run_pure, Bool.false_eq_true, if_false, hlen, hle, Bool.not_false, if_true, hfc, hmax, false_and, if_false, Sem.run_bind, hti, Result.andThen_ok, hnext, run_choose, hforced, Bool.false_eq_true, run_askRoom, hold, run_zeroValue hz, Go.newRow, run_newObj, Sem.run_pure]
      exact key d hux hd
  · have hl : n ≤ 2 ^ 40 := Nat.le_trans (Nat.le_mul_of_pos_right n hib2) hb2
    have hie : i2 = i := by rw [hi] at hi2; exact (Option.some.inj hi2).symm
    have hze : z2 = z := by rw [hz] at hz2; exact (Option.some.inj hz2).symm
    subst hie hze
    have hwrap : IntKind.i64.wrap (n : Int) = n := wrap_small n (by omega) (by omega)
    have hneg : ¬ ((n : Int) < 0) := by omega
    have hbig : ¬ ((n : Int) * (i2.bytes : Int) > 2 ^ 48) := by
      have : ((n * i2.bytes : Nat) : Int) ≤ 2 ^ 40 := by exact_mod_cast hb2
      push_cast at this; omega
    have hint : (asInt (.int .i64 n)).run C.P w = .ok n w := rfl
    by_cases hn0 : n * size = 0
    · have hze : Builtin.zeroCells z2.cells n = #[] := Array.eq_empty_of_size_eq_zero (by simp [Builtin.zeroCells, hzs, hn0])
      simp only [Builtin.append_, h0, p1, q1, hat, Sem.run_bind, run_underlying hu, run_underlying hux, Result.andThen_ok, run_sizeOf hsz, Sem.run_pure, if_true, hint, hwrap, hneg, if_false, hti, hbig, Int.toNat_natCast, hle, Bool.not_true, Bool.false_eq_true, hn0, hze, hmax, false_and, if_false, Sem.run_bind, hti, Result.andThen_ok, hnext, run_choose, hforced, Bool.false_eq_true, run_askRoom, hold, run_zeroValue hz, Go.newRow, run_newObj, Sem.run_pure]
    · simp only [Builtin.append_, h0, p1, q1, hat, Sem.run_bind, run_underlying hu, run_underlying hux, Result.andThen_ok, run_sizeOf hsz, Sem.run_pure, if_true, hint, hwrap, hneg, if_false, hti, hbig, Int.toNat_natCast, hle, Bool.not_true, Bool.false_eq_true, hn0, hmax, false_and, if_false, Sem.run_bind, hti, Result.andThen_ok, hnext, run_choose, hforced, Bool.false_eq_true, run_askRoom, hold, run_zeroValue hz, Go.newRow, run_newObj, Sem.run_pure]
end
end Go.Ev
namespace Go.Ev
open Go

section
variable {C : Cfg} {low : Nat → Option Obj} {ρ : Emb} {h : AH} {w : World}

theorem zeroCells_size (cells : Array Value) (n : Nat) : (Builtin.zeroCells cells n).size = n * cells.size := by simp [Builtin.zeroCells]

theorem Sim.kill (s : Sim C low ρ h w) (k : Nat) : Sim C low ρ (h.kill k) w :=
  s.weaken rfl fun m o hm => by
    rw [AH.get_kill] at hm
    by_cases e : m = k
    · rw [if_pos e] at hm; cases hm
    · rw [if_neg e] at hm; exact hm

theorem Nx.kill (s : Sim C low ρ h w) (k : Nat) : Nx C low ρ h w ρ (h.kill k) w :=
  (Nx.refl s).weaken rfl fun m o hm => by
    rw [AH.get_kill] at hm
    by_cases e : m = k
    · rw [if_pos e] at hm; cases hm
    · rw [if_neg e] at hm; exact hm

/-- The new row behind an append. -/
theorem grown (s : Sim C low ρ h w) {elem : TypeId} {size sLen n cap : Nat} {old old' new new' : Array Value} {z : Value} (hsz : sizeT C.P elem = some size) (hzs : z.cells.size = size)
    (ho : AR ρ old old') (hon : old.size = sLen * size) (hn : AR ρ new new') (hnn : new.size = n * size) (hcap : sLen + n ≤ cap) :
    Nx C low ρ h w (ρ.upd h.next ⟨w.heap.size, 0, cap⟩) (newRow h elem (old ++ new) true)
      { w with drawn := w.drawn + 1, heap := w.heap.push (.cells (old' ++ new' ++ Builtin.zeroCells z.cells (cap - (sLen + n))) elem) } := by
  have hr := ho.append hn
  have h1 : (old' ++ new').size = (sLen + n) * size := by rw [← hr.1, Array.size_append, hon, hnn, Nat.add_mul]
  have htot : (old' ++ new' ++ Builtin.zeroCells z.cells (cap - (sLen + n))).size = cap * size := by
    rw [Array.size_append, h1, zeroCells_size, hzs, ← Nat.add_mul]
    congr 1; omega
  refine newRow_open s hsz (fun i v v' e1 e2 => ?_) htot.symm ?_ ⟨Nat.le_refl _, fun i _ => by simp⟩ rfl ⟨rfl, rfl, rfl⟩
  · have hi := (Array.getElem?_eq_some_iff.1 e1).1
    rw [Array.getElem?_append, if_pos (by rw [← hr.1]; exact hi)] at e2
    exact hr.2 i v v' e1 e2
  · rw [htot, hr.1, h1]; exact Nat.mul_le_mul_right _ hcap

theorem setCells_before (vs : List Value) : ∀ (c : Array Value) (i j : Nat), j < i → (setCells c i vs)[j]? = c[j]? := by
  induction vs with
  | nil => intro c i j _; rfl
  | cons v l ih =>
    intro c i j hj
    rw [setCells, ih _ _ _ (by omega), Array.getElem?_setIfInBounds_ne (by omega)]
theorem setCells_in (vs : List Value) : ∀ (c : Array Value) (i j : Nat), j < vs.length → i + vs.length ≤ c.size → (setCells c i vs)[i + j]? = vs[j]? := by
  induction vs with
  | nil => intro c i j hj _; simp at hj
  | cons v l ih =>
    intro c i j hj hle
    simp at hle
    match j with
    | 0 =>
      rw [setCells, Nat.add_zero, setCells_before _ _ _ _ (by omega)]
      have : i < c.size := by omega
      simp [this]
    | j + 1 =>
      have := ih (c.setIfInBounds i v) (i + 1) j (by simp at hj; omega) (by simp; omega)
      rw [setCells, show i + (j + 1) = i + 1 + j from by omega, this]
      simp

theorem aappend_sound (s : Sim C low ρ h w) {ats : Array TypeId} {ty : TypeId} {args args' : Array Value} {r : OpR} (ha : aappend C h ats args = some r) (hr : AR ρ args args') :
    ∃ v h1, r = .val v h1 ∧ ∃ ρ1 w1 v', (Builtin.append_ ats ty args').run C.P w = .ok v' w1 ∧ Nx C low ρ h w ρ1 h1 w1 ∧ VR ρ1 v v' := by
  unfold aappend at ha
  split at ha
  · rename_i sType base sLen sCap x h0 h1 h2
    obtain ⟨s', p1, p2⟩ := hr.get h1
    obtain ⟨x', q1, q2⟩ := hr.get h2
    split at ha
    · rename_i elem hu
      cases hsz : sizeT C.P elem with
      | none => simp [hsz] at ha
      | some size =>
      cases hi : C.P.info? elem with
      | none => simp [hsz, hi] at ha
      | some info =>
      cases hz : zeroOf C.P elem with
      | none => simp [hsz, hi, hz] at ha
      | some z =>
      simp only [hsz, hi, hz] at ha
      cases hnw : appNew C h ats size info.bytes z x with
      | none => simp [hnw] at ha
      | some y =>
      obtain ⟨n, new, zeros⟩ := y
      cases hro : roomOf C.P h elem base sCap with
      | none => simp [hnw, hro] at ha
      | some y =>
      obtain ⟨room, exact⟩ := y
      simp only [hnw, hro] at ha
      obtain ⟨hc, ha⟩ := cond_none ha
      simp only [Bool.and_eq_true] at hc
      obtain ⟨⟨⟨hs0, hib⟩, hzs⟩, hnn⟩ := hc
      have hs0 : 0 < size := by simpa using hs0
      have hib : 0 < info.bytes := by simpa using hib
      have hzs := Nat.eq_of_beq_eq_true hzs
      have hnn := Nat.eq_of_beq_eq_true hnn
      obtain ⟨new', hN⟩ := appNew_sound s hi hib hzs hz hnw q2
      have hnr := hN.rel
      -- the slice, there
      obtain ⟨base', sCap', rfl⟩ : ∃ base' sCap', s' = .slice base' sLen sCap' := by
        cases p2 <;> exact ⟨_, _, rfl⟩
      obtain ⟨hroom, hex, hin⟩ := room_sound s hro p2
      unfold appPut at ha
      cases hfit : Nat.ble (sLen + n) room with
      | true =>
        have hfit' := Nat.le_of_ble_eq_true hfit
        simp only [hfit, cond_true] at ha
        have hle : sLen + n ≤ sCap' := Nat.le_trans hfit' hroom
        cases hne : Nat.beq new.size 0 with
        | true =>
          simp only [hne, cond_true] at ha
          cases ha
          have hne := Nat.eq_of_beq_eq_true hne
          have hn0 : n = 0 := by
            rw [hnn] at hne
            rcases Nat.mul_eq_zero.1 hne with h | h
            · exact h
            · omega
          have hne' : new' = #[] := Array.eq_empty_of_size_eq_zero (by rw [← hnr.1]; exact hne)
          refine ⟨_, _, rfl, ρ, w, _, append_room (C := C) rfl h0 p1 q1 hu hsz hN hle (w1 := w) ?_, Nx.refl s, ?_⟩
          · rw [hne']; cases base' <;> rfl
          · subst hn0; exact p2
        | false =>
          simp only [hne, cond_false] at ha
          have hnpos : 0 < n := by
            rcases Nat.eq_zero_or_pos n with h | h
            · rw [h, Nat.zero_mul] at hnn; rw [hnn] at hne; cases hne
            · exact h
          cases base with
          | none => cases ha
          | some a =>
            simp only [Option.map_eq_some_iff] at ha
            obtain ⟨h1', hst, rfl⟩ := ha
            cases p2 with
            | @slc _ a' _ _ har hcb =>
              obtain ⟨w1, run, nx⟩ := storeN_sound s hst (har.add (sLen * size)) hnr.list
              exact ⟨_, _, rfl, ρ, w1, _, append_room (C := C) rfl h0 p1 q1 hu hsz hN hle run, nx, .slc har hcb⟩
            | @slcO _ a' _ _ _ g har hcb hg hr' =>
              obtain ⟨w1, run, nx⟩ := storeN_sound s hst (har.add (sLen * size)) hnr.list
              exact ⟨_, _, rfl, ρ, w1, _, append_room (C := C) rfl h0 p1 q1 hu hsz hN hle run, nx, .slcO har hcb hg hr'⟩
            | slcZ => omega
      | false =>
        have hfit' : ¬ sLen + n ≤ room := fun h => by have := Nat.ble_eq_true_of_le h; rw [hfit] at this; cases this
        simp only [hfit, cond_false] at ha
        obtain ⟨hb, ha⟩ := cond_none ha
        have hb := Nat.le_of_ble_eq_true hb
        cases exact with
        | true =>
          simp only [cond_true] at ha
          obtain ⟨e1, e2, e3⟩ := hex rfl
          have hle : ¬ sLen + n ≤ sCap' := by omega
          cases hf : firstN h size sLen (.slice base sLen sCap) with
          | none => simp [hf] at ha
          | some old =>
            simp only [hf] at ha
            obtain ⟨hos, ha⟩ := cond_some ha
            subst ha
            have hos := Nat.eq_of_beq_eq_true hos
            have s2 : Sim C low ρ h { w with drawn := w.drawn + 1 } := s.same rfl
            obtain ⟨old', o1, o2⟩ := firstN_rel s2 hf p2 (fun a' he => by cases he; simp)
            obtain ⟨cap, hcap, run⟩ := append_grow (ty := ty) h0 p1 q1 hu hsz hN hle hi hz hib hb o1
            exact ⟨_, _, rfl, _, _, _, run, grown s hsz hzs o2 hos hnr hnn hcap, slcO_upd _ _ _ _⟩
        | false =>
          simp only [cond_false] at ha
          obtain ⟨hbc, a, cs0, fz0, sz0, rfl, hrow0, hsz0, hsp0, hroomeq⟩ := hin rfl
          rw [hsz] at hsz0; cases hsz0
          simp only [hrow0] at ha
          obtain ⟨hc, ha⟩ := cond_some ha
          subst ha
          simp only [Bool.and_eq_true, Bool.not_eq_true', List.all_eq_true, Array.all_eq_true'] at hc
          obtain ⟨⟨⟨⟨⟨⟨⟨_, _⟩, hoff⟩, hspot⟩, hbase⟩, hfz⟩, hcl⟩, hone⟩ := hc
          have hoff := Nat.eq_of_beq_eq_true hoff
          have hbase := Nat.le_of_ble_eq_true hbase
          have hcl := Nat.le_of_ble_eq_true hcl
          have hspot : a.spot = none := by simpa using hspot
          obtain ⟨g, c', f, R⟩ := s.row (rowAt_get hrow0)
          have hcell := cellsOf_sizeT hsz
          obtain ⟨hR1, hR2⟩ := R.ho rfl
          simp only [hcell] at hR1 hR2
          have har0 : AddrR ρ a ⟨g.b, g.o + a.off, none⟩ := ⟨g, R.emb, rfl, rfl, hspot, rfl⟩
          have hload : loadN h a (sLen * size) = some (cs0.extract a.off (a.off + sLen * size)) := by
            have : Nat.ble (a.off + sLen * size) cs0.size = true := Nat.ble_eq_true_of_le hcl
            simp only [loadN, hspot, hrow0, this, cond_true]
          have hold : (cs0.extract a.off (a.off + sLen * size)).size = sLen * size := by simp; omega
          by_cases hle : sLen + n ≤ sCap'
          · -- in place
            cases p2 with
            | slc _ h => omega
            | slcZ => omega
            | @slcO _ a' _ _ _ g2 har hcb hg hr' =>
              have hg2 : g2 = g := by have := R.emb; rw [hg] at this; exact Option.some.inj this
              subst hg2
              obtain ⟨g3, e1, e2, e3, e4, e5⟩ := har
              rw [hg] at e1; cases e1
              have hstart : (sCap - big) ≤ g2.r := by omega
              have hrow : g2.o + a.off + sCap' * size = c'.size := by
                rw [hoff, ← hR1, ← hr', Nat.add_mul]; omega
              have hfits : g2.o + a.off + sLen * size + new'.size ≤ c'.size := by
                rw [← hnr.1, hnn, ← hrow]
                have := Nat.mul_le_mul_right size hle
                rw [Nat.add_mul] at this; omega
              have ha' : a'.add (sLen * size) = ⟨g2.b, g2.o + a.off + sLen * size, none⟩ := by rw [add_none e5, e2, e3]
              have hone' : ∀ v ∈ new'.toList, v.oneCell' = true := oneCell_all hnr.list (fun v hv => by
                obtain ⟨i, hi1, rfl⟩ := List.mem_iff_getElem.1 hv
                exact hone _ (by simp))
              have run := setRow_run C.P g2.b (g2.o + a.off + sLen * size) elem f new'.toList 0 c' w R.heap (R.hz hfz).2 (by simpa using hfits) hone'
              rw [Nat.add_zero] at run
              have hst : (match (some a' : Option Addr) with | some a => storeCells (a.add (sLen * size)) new'.toList | none => pure () : Sem Unit).run C.P w = .ok () { w with heap := w.heap.setIfInBounds g2.b (.cells (setCells c' (g2.o + a.off + sLen * size) new'.toList) elem f) } := by
                simp only [ha']; exact run
              refine ⟨_, _, rfl, ρ.upd h.next ⟨g2.b, g2.o + a.off, g2.r - (sCap - big)⟩, _, _, append_room (C := C) rfl h0 p1 q1 hu hsz hN hle hst, ?_, ?_⟩
              · refine Nx.move s (rowAt_get hrow0) hbase hg rfl (o' := .cells (setCells c' (g2.o + a.off + sLen * size) new'.toList) elem f) ?_ rfl ⟨rfl, rfl, rfl⟩
                refine .cells (fun _ => by rw [setCells_size]; exact R.hz hfz) (fun h => by cases h) (fun _ => ?_) fun i v v' i1 i2 => ?_
                · rw [setCells_size, hcell]
                  have e6 : g2.r - (sCap - big) = sCap' := by omega
                  simp only [e6]
                  refine ⟨hrow, ?_⟩
                  rw [Array.size_append, hold, hnn, ← Nat.add_mul]
                  exact Nat.mul_le_mul_right _ hle
                · simp only at i2
                  rw [Array.getElem?_append] at i1
                  refine VR.mono (s.le_upd _) ?_
                  by_cases hi1 : i < (cs0.extract a.off (a.off + sLen * size)).size
                  · rw [if_pos hi1] at i1
                    rw [hold] at hi1
                    rw [setCells_before _ _ _ _ (by omega)] at i2
                    rw [Array.getElem?_extract, if_pos (by omega)] at i1
                    have i3 : c'[g2.o + (a.off + i)]? = some v' := by rw [← Nat.add_assoc]; exact i2
                    exact R.hc (a.off + i) v v' i1 i3
                  · rw [if_neg hi1, hold] at i1
                    rw [hold] at hi1
                    have hi2 := (Array.getElem?_eq_some_iff.1 i1).1
                    have hj : i - sLen * size < new'.toList.length := by simpa [← hnr.1] using hi2
                    have := setCells_in new'.toList c' (g2.o + a.off + sLen * size) (i - sLen * size) hj (by simpa using hfits)
                    rw [show g2.o + a.off + sLen * size + (i - sLen * size) = g2.o + a.off + i from by omega] at this
                    rw [this] at i2
                    exact hnr.2 _ v v' i1 (by simpa using i2)
              · refine .slcO (g := ⟨g2.b, g2.o + a.off, g2.r - (sCap - big)⟩) ⟨_, Emb.upd_self _ _ _, e2, e3, rfl, e5⟩ (Nat.le_refl _) (Emb.upd_self _ _ _) ?_
                simp only; omega
          · -- a new row
            have s2 : Sim C low ρ h { w with drawn := w.drawn + 1 } := s.same rfl
            have hz0 : ∀ a', base' = some a' → sLen = 0 ∨ AddrR ρ a a' := by
              intro a' he
              subst he
              cases p2 with
              | slc har _ => exact .inr har
              | slcO har _ _ _ => exact .inr har
              | slcZ => exact .inl rfl
            obtain ⟨a', rfl⟩ : ∃ a', base' = some a' := by cases p2 <;> exact ⟨_, rfl⟩
            have hold' : ∃ old', (Builtin.firstCells size sLen (.slice (some a') sLen sCap')).run C.P { w with drawn := w.drawn + 1 } = .ok old' { w with drawn := w.drawn + 1 } ∧ AR ρ (cs0.extract a.off (a.off + sLen * size)) old' := by
              rcases hz0 a' rfl with h | har
              · subst h
                refine ⟨#[], by simp [Builtin.firstCells, loadCells, loadCellsFrom], ?_⟩
                have : cs0.extract a.off (a.off + 0 * size) = #[] := Array.eq_empty_of_size_eq_zero (by rw [hold, Nat.zero_mul])
                rw [this]; exact AR.nil ρ
              · obtain ⟨old', o1, o2, _⟩ := loadN_sound s2 hload har
                exact ⟨old', by simpa [Builtin.firstCells] using o1, o2⟩
            obtain ⟨old', o1, o2⟩ := hold'
            obtain ⟨cap, hcap, run⟩ := append_grow (ty := ty) h0 p1 q1 hu hsz hN hle hi hz hib hb o1
            refine ⟨_, _, rfl, _, _, _, run, (Nx.kill s a.block).trans (grown (s.kill a.block) hsz hzs o2 hold hnr hnn hcap), slcO_upd _ _ _ _⟩
    · cases ha
  · cases ha
end
end Go.Ev
