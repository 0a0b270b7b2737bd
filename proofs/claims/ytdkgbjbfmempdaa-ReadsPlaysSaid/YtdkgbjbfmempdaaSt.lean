/-
  A book, the document's book, a call's cells: what is kept from call to call, whichever of the two is called. No condition.
-/
import Derived.Test.YtdkgbjbfmempdaaSm
import Derived.Test.YtdkgbjbfmempdaaUp
import Derived.Deep.RegionHeld3
import Derived.Deep.AppendLies
namespace Go.Proofs.Ytdkgbjbfmempdaa
open Go.ChangeShapes Go.WideShapes Go.ChangeAt Go.RowKit Go.Deep
set_option linter.unusedVariables false

/-- From world w0 on: the book b, the document's book r, the call's cells X. -/
structure St (w0 w : World) (B X b r : Nat) (oc : Array Value) (me : Int) (a0 c0 : Option Addr) (lb : List Rd) (hb : Nat → Int) (a : Option Addr) (cap : Nat) (lr : List Rd) (hr : Nat → Int) (c : Option Addr) (cc : Nat) : Prop where
  book : Book w B b me lb hb a cap
  rbook : RBook w B r me lr hr c cc
  ox : w.heap[X]? = some (.cells oc 32 (0, 0))
  n1 : ¬ Foot b a X
  n2 : ¬ Foot r c X
  dis : ∀ j, Foot b a j → ¬ Foot r c j
  l1 : lb.length ≤ 100
  l2 : lr.length ≤ 100
  bw : B ≤ w0.heap.size
  kp : Kp (fun j => Foot b a0 j ∨ Foot r c0 j) w0 w
  m1 : Moved w0 a0 a
  m2 : Moved w0 c0 c

theorem Moved.old {w0 : World} {b j : Nat} {a0 a : Option Addr} (m : Moved w0 a0 a) (h : Foot b a j) (hj : j < w0.heap.size) : Foot b a0 j := by
  rcases h with h | h
  · exact Or.inl h
  · rcases m with m | m
    · exact Or.inr (m ▸ h)
    · have := m j h.symm
      omega
theorem Moved.next {w0 w : World} {a0 a a' : Option Addr} (m : Moved w0 a0 a) (hs : w0.heap.size ≤ w.heap.size) (m' : Moved w a a') : Moved w0 a0 a' := by
  rcases m' with e | e
  · rcases m with f | f
    · exact Or.inl (e.trans f)
    · exact Or.inr (fun g hg => f g (e ▸ hg))
  · exact Or.inr (fun g hg => by have := e g hg; omega)
theorem Moved.same (w : World) (a : Option Addr) : Moved w a a := Or.inl rfl

section
variable {w0 w w' : World} {B X b r : Nat} {oc : Array Value} {me : Int} {a0 c0 : Option Addr} {lb : List Rd} {hb : Nat → Int} {a : Option Addr} {cap : Nat} {lr : List Rd} {hr : Nat → Int} {c : Option Addr} {cc : Nat}

theorem St.one (s : St w0 w B X b r oc me a0 c0 lb hb a cap lr hr c cc) {lb' : List Rd} {hb' : Nat → Int} {a' : Option Addr} {cap' : Nat} (k : Book w' B b me lb' hb' a' cap') (hl : lb'.length ≤ 100) (hk : Kp (Foot b a) w w') (hm : Moved w a a') :
    St w0 w' B X b r oc me a0 c0 lb' hb' a' cap' lr hr c cc := by
  have hs := s.kp.size
  refine ⟨k, s.rbook.kp hk (fun h => s.dis r h (Or.inl rfl)) (fun g hg h => s.dis g h (Or.inr hg.symm)), hk.heap s.ox s.n1, hm.foot s.n1 (lt_of_block s.ox), s.n2, fun j h1 h2 => ?_, hl, s.l2, s.bw, s.kp.andThen hk (fun i hi h => Or.inl (s.m1.old h hi)), s.m1.next hs hm, s.m2⟩
  have hj := (s.rbook.foot h2).2
  exact s.dis j (hm.old h1 hj) h2
theorem St.two (s : St w0 w B X b r oc me a0 c0 lb hb a cap lr hr c cc) {lr' : List Rd} {hr' : Nat → Int} {c' : Option Addr} {cc' : Nat} (k : RBook w' B r me lr' hr' c' cc') (hl : lr'.length ≤ 100) (hk : Kp (Foot r c) w w') (hm : Moved w c c') :
    St w0 w' B X b r oc me a0 c0 lb hb a cap lr' hr' c' cc' := by
  have hs := s.kp.size
  refine ⟨s.book.kp hk (fun h => s.dis b (Or.inl rfl) h) (fun g hg h => s.dis g (Or.inr hg.symm) h), k, hk.heap s.ox s.n2, s.n1, hm.foot s.n2 (lt_of_block s.ox), fun j h1 h2 => ?_, s.l1, hl, s.bw, s.kp.andThen hk (fun i hi h => Or.inr (s.m2.old h hi)), s.m1, s.m2.next hs hm⟩
  have hj := (s.book.foot h1).2
  exact s.dis j h1 (hm.old h2 hj)
theorem St.still (s : St w0 w B X b r oc me a0 c0 lb hb a cap lr hr c cc) (hk : Kp (fun _ => False) w w') : St w0 w' B X b r oc me a0 c0 lb hb a cap lr hr c cc :=
  ⟨s.book.no hk, s.rbook.no hk, hk.heap s.ox (fun h => h), s.n1, s.n2, s.dis, s.l1, s.l2, s.bw, s.kp.andThen hk (fun _ _ h => h.elim), s.m1, s.m2⟩

/-- What is known behind the whole step. -/
theorem St.done (s : St w0 w B X b r oc me a0 c0 lb hb a cap lb hb c cc) {wi : World} (hk : Kp (fun _ => False) wi w0) : ∃ l' h' a' cap' c' cc', Book w B b me l' h' a' cap' ∧ RBook w B r me l' h' c' cc' ∧ (∀ j, Foot b a' j → ¬ Foot r c' j) ∧ l'.length ≤ 100 ∧
    Kp (fun j => Foot b a0 j ∨ Foot r c0 j) wi w ∧ Moved wi a0 a' ∧ Moved wi c0 c' := by
  have hs := hk.size
  exact ⟨lb, hb, a, cap, c, cc, s.book, s.rbook, s.dis, s.l1, (hk.mono (S' := fun j => Foot b a0 j ∨ Foot r c0 j) (fun _ _ h => h.elim)).andThen s.kp (fun _ _ h => h), (Moved.same _ _).next hs s.m1, (Moved.same _ _).next hs s.m2⟩

theorem ask_len (l : List Rd) (id ix rd : Int) (h : l.length ≤ 100) : (ask l id ix rd).2.length ≤ 100 := by
  unfold ask
  split
  · exact h
  · split
    · exact h
    · split
      · exact h
      · simp
        omega
theorem ask_st (s : St w0 w B X b r oc me a0 c0 lb hb a cap lr hr c cc) (id ix rd : Int) :
    Calls Try.prog 11 #[.pointer (some ⟨b, 0, none⟩), .int .i64 id, .int .i64 ix, .int .i64 rd] w fun e w' => ∃ a' cap', e = .returned (.int .i64 (ask lb id ix rd).1) ∧ St w0 w' B X b r oc me a0 c0 (ask lb id ix rd).2 hb a' cap' lr hr c cc :=
  Calls.mono (ask_any s.book (by have := s.l1; omega) id ix rd) fun e w' ⟨a', cap', he, h1, h2, h3⟩ => ⟨a', cap', he, s.one h1 (ask_len _ _ _ _ s.l1) h2 h3⟩
theorem rask_st (s : St w0 w B X b r oc me a0 c0 lb hb a cap lr hr c cc) (id ix rd : Int) :
    Calls Try.prog 27 #[.pointer (some ⟨r, 0, none⟩), .int .i64 id, .int .i64 ix, .int .i64 rd] w fun e w' => ∃ c' cc', e = .returned (.int .i64 (ask lr id ix rd).1) ∧ St w0 w' B X b r oc me a0 c0 lb hb a cap (ask lr id ix rd).2 hr c' cc' :=
  Calls.mono (rask_any s.rbook (by have := s.l2; omega) id ix rd) fun e w' ⟨a', cap', he, h1, h2, h3⟩ => ⟨a', cap', he, s.two h1 (ask_len _ _ _ _ s.l2) h2 h3⟩

/-- What Heard answers, and what was heard behind it. -/
def hearC (h : Nat → Int) (f rd : Int) : Int × (Nat → Int) := if (decide (f < 0) || decide (16 ≤ f) || decide (rd < 0)) = true then (1, h) else (0, hear h f.toNat rd)
theorem heard_st (s : St w0 w B X b r oc me a0 c0 lb hb a cap lr hr c cc) (f rd : Int) :
    Calls Try.prog 12 #[.pointer (some ⟨b, 0, none⟩), .int .i64 f, .int .i64 rd] w fun e w' => e = .returned (.int .i64 (hearC hb f rd).1) ∧ St w0 w' B X b r oc me a0 c0 lb (hearC hb f rd).2 a cap lr hr c cc := by
  unfold hearC
  split
  · rename_i h
    refine Calls.mono (heard_bad s.book f rd h) ?_
    rintro e w' ⟨he, rfl⟩
    exact ⟨he, s⟩
  · rename_i h
    have h2 : ¬ f < 0 ∧ ¬ 16 ≤ f ∧ ¬ rd < 0 := by simpa [not_or, and_assoc] using h
    have e1 := Int.toNat_of_nonneg (show 0 ≤ f by omega)
    have hh := heard_good s.book f.toNat (by omega) rd (by omega)
    rw [e1] at hh
    exact Calls.mono hh fun e w' ⟨he, h3, h4⟩ => ⟨he, s.one h3 s.l1 (h4.mono (fun j _ e => Or.inl e)) (Moved.same _ _)⟩
theorem hear_st (s : St w0 w B X b r oc me a0 c0 lb hb a cap lr hr c cc) (f rd : Int) :
    Calls Try.prog 28 #[.pointer (some ⟨r, 0, none⟩), .int .i64 f, .int .i64 rd] w fun e w' => e = .returned (.int .i64 (hearC hr f rd).1) ∧ St w0 w' B X b r oc me a0 c0 lb hb a cap lr (hearC hr f rd).2 c cc := by
  unfold hearC
  split
  · rename_i h
    refine Calls.mono (hear_bad r f rd h) ?_
    rintro e w' ⟨he, rfl⟩
    exact ⟨he, s⟩
  · rename_i h
    have h2 : ¬ f < 0 ∧ ¬ 16 ≤ f ∧ ¬ rd < 0 := by simpa [not_or, and_assoc] using h
    have e1 := Int.toNat_of_nonneg (show 0 ≤ f by omega)
    have hh := hear_good s.rbook f.toNat (by omega) rd (by omega)
    rw [e1] at hh
    exact Calls.mono hh fun e w' ⟨he, h3, h4⟩ => ⟨he, s.two h3 s.l2 (h4.mono (fun j _ e => Or.inl e)) (Moved.same _ _)⟩

theorem keep_len (p : Rd → Bool) (l : List Rd) (h : l.length ≤ 100) : (keep p l).length ≤ 100 := Nat.le_trans (List.length_filter_le _ _) h
theorem told_len (p : Rd → Bool) (l : List Rd) (h : l.length ≤ 100) : (toldAll p l).length ≤ 100 := by
  unfold toldAll
  rw [List.length_map]
  exact Nat.le_trans (List.length_filter_le _ _) h
theorem ready_st (s : St w0 w B X b r oc me a0 c0 lb hb a cap lr hr c cc) {x : Option Addr} {zs : List Int} (hx : Ints w x zs) (hxa : ∀ g, blockOf x = some g → blockOf a ≠ some g) (mx : zs.length ≤ 17592186043904) (cx : Nat) :
    Calls Try.prog 13 #[.pointer (some ⟨b, 0, none⟩), .slice x zs.length cx] w fun e w' => ∃ o co, e = .returned (.slice o (toldAll (fun q => won zs (yes me hb q.rd)) lb).length co) ∧ Answers w' o (toldAll (fun q => won zs (yes me hb q.rd)) lb) ∧ (∀ g, blockOf o = some g → ¬ Foot r c g) ∧
      St w0 w' B X b r oc me a0 c0 (keep (fun q => won zs (yes me hb q.rd)) lb) hb a cap lr hr c cc :=
  Calls.mono (ready_any s.book (by have := s.l1; omega) hx (fun _ => hxa) (by omega) cx) fun e w' ⟨o, co, he, h1, h2, h3⟩ => ⟨o, co, he, h1.answers, fun g hg hF => by have := (h1.from hg).1; have := (s.rbook.foot hF).2; omega, s.one h2 (keep_len _ _ s.l1) h3 (Moved.same _ _)⟩
theorem rready_st (s : St w0 w B X b r oc me a0 c0 lb hb a cap lr hr c cc) {x : Option Addr} {zs : List Int} (hx : Ints w x zs) (mx : zs.length ≤ 17592186043904) (cx : Nat) :
    Calls Try.prog 30 #[.pointer (some ⟨r, 0, none⟩), .slice x zs.length cx] w fun e w' => ∃ o co c' cc', e = .returned (.slice o (toldAll (fun q => won zs (yes me hr q.rd)) lr).length co) ∧ Answers w' o (toldAll (fun q => won zs (yes me hr q.rd)) lr) ∧ Kp (Foot r c) w w' ∧
      St w0 w' B X b r oc me a0 c0 lb hb a cap (keep (fun q => won zs (yes me hr q.rd)) lr) hr c' cc' :=
  Calls.mono (rready_any s.rbook (by have := s.bw; have := s.kp.size; omega) (by have := s.l2; omega) hx mx cx) fun e w' ⟨o, co, c', cc', he, h1, h2, h3, h4⟩ => ⟨o, co, c', cc', he, h1.answers, h3, s.two h2 (keep_len _ _ s.l2) h3 h4⟩
theorem Moved.none (w : World) (a : Option Addr) : Moved w a none := Or.inr fun g hg => by cases hg
theorem clear_st (s : St w0 w B X b r oc me a0 c0 lb hb a cap lr hr c cc) :
    Calls Try.prog 17 #[.pointer (some ⟨b, 0, none⟩)] w fun e w' => ∃ o co, e = .returned (.slice o lb.length co) ∧ Ints w' o (ids lb) ∧ (∀ g, blockOf o = some g → ¬ Foot r c g) ∧ St w0 w' B X b r oc me a0 c0 [] mute none 0 lr hr c cc :=
  Calls.mono (clear_any s.book (by have := s.l1; omega)) fun e w' ⟨o, co, he, h1, h2, h3⟩ => ⟨o, co, he, h1.ints, fun g hg hF => by have := (h1.from hg).1; have := (s.rbook.foot hF).2; omega, s.one h2 (by simp) h3 (Moved.none _ _)⟩
theorem rclear_st (s : St w0 w B X b r oc me a0 c0 lb hb a cap lr hr c cc) :
    Calls Try.prog 31 #[.pointer (some ⟨r, 0, none⟩)] w fun e w' => ∃ o co, e = .returned (.slice o lr.length co) ∧ Ints w' o (ids lr) ∧ Kp (Foot r c) w w' ∧ St w0 w' B X b r oc me a0 c0 lb hb a cap [] mute none 0 :=
  Calls.mono (rclear_any s.rbook (by have := s.l2; omega)) fun e w' ⟨o, co, he, h1, h2, h3⟩ => ⟨o, co, he, h1.ints, h3, s.two h2 (by simp) h3 (Moved.none _ _)⟩
end
/-- A list of ints, over a step that lets its block be. -/
theorem Ints.far {w w' : World} {a : Option Addr} {zs : List Int} (h : Ints w a zs) {S : Nat → Prop} (k : Kp S w w') (hn : ∀ g, blockOf a = some g → ¬ S g) : Ints w' a zs := by
  intro i hi
  obtain ⟨b, off, e, hc⟩ := h i hi
  subst e
  exact ⟨b, off, rfl, (k.cell (p := ⟨b, off + i, none⟩) (World.block_lt_of_cell? w _ hc) (hn b rfl)).trans hc⟩

/-- append onto a fresh empty list: as a run, and at a step of a region that draws its order. -/
theorem run_copy {P : Program} {w : World} (t ty e : TypeId) {size bytes : Nat} {z : Value} (hinfo : (P.info? e).map (fun i => (i.zero, i.size, i.bytes)) = some (some z, size, bytes)) (ht : P.underlying t = some (.slice e)) (hzs : z.cells.size = size) (hsz : 0 < size)
    {g : Nat} (hg : w.heap[g]? = some (.cells #[] e (0, 0))) {b : Option Addr} {m c : Nat} {news : List Value} (hl : news.length = m * size) (hnews : ∀ j u, news[j]? = some u → ∃ ad, b = some ad ∧ w.cell? (ad.add j) = some u) (h1 : ∀ u ∈ news, u.oneCell' = true)
    (h63 : m ≤ maxLen) (hbytes : m * bytes ≤ 140737488355328) :
    ∃ a' cap' w', (Builtin.append_ #[t, t] ty #[.slice (some ⟨g, 0, none⟩) 0 0, .slice b m c]).run P w = .ok (.slice a' m cap') w' ∧ Owns w' g e size a' m cap' news ∧ Kp (fun k => k = g) w w' := by
  obtain ⟨i, hi, hz0, hz1, hz2⟩ := info_parts hinfo
  have hown : Owns w g e size (some ⟨g, 0, none⟩) 0 0 [] := ⟨by simp, .inr ⟨g, 0, #[], rfl, Nat.le_refl _, hg, Nat.le_refl _, Nat.zero_le _, by simp, by simp⟩⟩
  cases b with
  | some ad =>
    obtain ⟨v', w', hr, h2, h3, _, h5⟩ := run_append_own_at (P := P) w g t ty e i z size bytes ht hi hz0 hz1 hz2 hzs hsz _ 0 [] hown ad m c news hl (fun j u hu => by
      obtain ⟨ad', e1, h2⟩ := hnews j u hu
      cases e1
      exact h2) h1 (by omega) (by rw [Nat.zero_add]; exact hbytes) (Nat.le_of_lt (lt_of_block hg))
    obtain ⟨a', cap', rfl, ho'⟩ := Owns.shape h2
    rw [Nat.zero_add] at hr
    refine ⟨a', cap', w', hr, ?_, ?_⟩
    · simpa using ho'
    · have := Kp.of_grown h3
      rw [blockOf_own] at this
      exact this.mono (fun j _ e => by cases e; rfl)
  | none =>
    have hm0 : news = [] := by
      cases hn : news with
      | nil => rfl
      | cons u q =>
        obtain ⟨ad, e1, _⟩ := hnews 0 u (by rw [hn]; rfl)
        cases e1
    subst hm0
    have hm : m = 0 := by
      have : m * size = 0 := by simpa using hl.symm
      rcases Nat.mul_eq_zero.1 this with h | h <;> omega
    subst hm
    have := run_append_room_src (P := P) w t t ty e i ht hi g 0 0 0 (.slice none 0 c) 0 [] (Src.ofNil w ht c) (by omega) (by simp) (by simp)
    exact ⟨some ⟨g, 0, none⟩, 0, w, by rw [this]; rfl, hown, Kp.refl _ _⟩
theorem step_copy {P : Program} {w : World} {ops : Array Oper} {o : Oper} {ac : Act} {K : Act → World → Prop} {Q : Exit → Act → World → Prop} {E : Prop} (hgd : o.guard = none) (s x : Operand) (t : TypeId)
    (ho : o.op = .call { callee := .builtin .append, args := #[s, x], argTypes := #[t, t] })
    (e : TypeId) {size bytes : Nat} {z : Value} (hinfo : (P.info? e).map (fun i => (i.zero, i.size, i.bytes)) = some (some z, size, bytes)) (ht : P.underlying t = some (.slice e)) (hzs : z.cells.size = size) (hsz : 0 < size)
    {g : Nat} (hs : ac.eval s = .slice (some ⟨g, 0, none⟩) 0 0) (hg : w.heap[g]? = some (.cells #[] e (0, 0))) {b : Option Addr} {m c : Nat} {news : List Value} (hx : ac.eval x = .slice b m c) (hl : news.length = m * size) (hnews : ∀ j u, news[j]? = some u → ∃ ad, b = some ad ∧ w.cell? (ad.add j) = some u) (h1 : ∀ u ∈ news, u.oneCell' = true)
    (h63 : m ≤ maxLen) (hbytes : m * bytes ≤ 140737488355328)
    (h : ∀ a' cap' w', Owns w' g e size a' m cap' news → Kp (fun k => k = g) w w' → K (ac.put o.dst (.slice a' m cap')) w') : if Region.wanted o (yielded ops ac.tmps) = true then Oper.wp P o ac w K Q else E := by
  have hw : Region.wanted o (yielded ops ac.tmps) = true := by simp [Region.wanted, hgd]
  rw [if_pos hw]
  obtain ⟨a', cap', w', hr, h2, h3⟩ := run_copy (P := P) (w := w) t o.type e hinfo ht hzs hsz hg (b := b) (c := c) hl hnews h1 h63 hbytes
  unfold Oper.wp execOp
  simp only [ho, resolve, invoke, builtin, Sem.run_bind, Sem.run_pure, Result.andThen_ok, List.map_toArray, List.map_cons, List.map_nil, hs, hx, hr]
  exact h a' cap' w' h2 h3
end Go.Proofs.Ytdkgbjbfmempdaa
