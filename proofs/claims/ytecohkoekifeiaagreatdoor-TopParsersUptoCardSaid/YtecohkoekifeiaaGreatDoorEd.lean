/-
  The evaluator's steps and regions are sound, part one. No condition.
-/
import Derived.Test.YtecohkoekifeiaaGreatDoorEc
import Derived.Orders
set_option linter.all false
namespace Go.Ev
open Go

section
variable {C : Cfg} {low : Nat → Option Obj} {ρ : Emb} {h : AH} {w : World}

theorem todo_code {todo todo' : List Item} (h : L2 (ItR ρ) todo todo') {c : Code} {k : List Item} (ht : todo = .code c :: k) : ∃ k', todo' = .code c :: k' ∧ L2 (ItR ρ) k k' := by
  subst ht
  cases h with
  | cons hit hk => cases hit; exact ⟨_, rfl, hk⟩
theorem todo_plain {todo todo' : List Item} (h : L2 (ItR ρ) todo todo') {i : Item} {k : List Item} (ht : todo = i :: k) (hn : noRef i = true) : ∃ k', todo' = i :: k' ∧ L2 (ItR ρ) k k' := by
  subst ht
  cases h with
  | cons hit hk => cases hit <;> first | exact ⟨_, rfl, hk⟩ | cases hn
theorem todo_nil {todo todo' : List Item} (h : L2 (ItR ρ) todo todo') (ht : todo = []) : todo' = [] := by subst ht; cases h; rfl

theorem round_some {s : AS} {fr : Frame} {cs : List Frame} (m : MR C low ρ s fr cs w) {l : Nat} (h : s.fr.roundOf = some l) : ∃ g, ρ l = some g ∧ fr.roundOf = some g.b := by
  rcases m.fr.round with ⟨h2, _⟩ | ⟨l2, g, e1, e2, e3⟩
  · rw [h] at h2; cases h2
  · rw [h] at e1; cases e1; exact ⟨g, e2, e3⟩
theorem round_none {s : AS} {fr : Frame} {cs : List Frame} (m : MR C low ρ s fr cs w) (h : s.fr.roundOf = none) : fr.roundOf = none := by
  rcases m.fr.round with ⟨_, h2⟩ | ⟨l2, g, e1, e2, e3⟩
  · exact h2
  · rw [h] at e1; cases e1

theorem loop_at (s : Sim C low ρ h w) {l : Nat} {g : Img} {st : LoopState} {p : Option Code} {fn : FuncId} {t : Tr Value} {nt : Nat} {ps : Array Tmp} {a b : Code} {d : Nat} (hl : h.get l = some (.loop st p fn t nt ps a b d)) (hg : ρ l = some g) :
    ∃ tmps gd, w.heap[g.b]? = some (.loop { state := st, pending := p, fn, tmps, params := ps, assign := a, body := b, defers := gd.b }) ∧ TmR ρ t tmps ∧ tmps.size = nt ∧ ρ d = some gd := by
  obtain ⟨g2, o', f1, f2, f3⟩ := s.live _ _ hl
  rw [hg] at f1; cases f1
  cases f3 with
  | loop ht hn hd => exact ⟨_, _, f2, ht, hn, hd⟩

/-- The frame's todo is replaced; the mode stays. -/
theorem go_list {s : AS} {fr : Frame} {cs bot : List Frame} (m : MR C low ρ s fr cs w) {k k' : List Item} (hk : L2 (ItR ρ) k k') {s1 : AS}
    (he : s1 = { s with fr := { s.fr with todo := k } }) (hs : step C.P (lone fr (cs ++ bot) w) = .next (lone { fr with todo := k' } (cs ++ bot) w)) : GoOk C low ρ s.h fr cs bot w s1 := by
  subst he; exact go_to m hk hs

def codeF (C : Cfg) (run : AS → Option (End × AH)) (s : AS) (c : Code) (k : List Item) : AOut :=
  let to (k : List Item) : AOut := .go { s with fr := { s.fr with todo := k } }
  match c with
  | .ret => leaveF C s (some .ret)
  | .skip | .label _ => to k
  | .seq a b => to (.code a :: .code b :: k)
  | .cond c a b => match s.fr.ev C c with
    | some (.bool true) => to (.code a :: k)
    | some (.bool false) => to (.code b :: k)
    | _ => .fail
  | .block id body => to (.code body :: .inBlock id :: k)
  | .loop body => to (.code body :: .inLoop body :: k)
  | .scope body => to (.code body :: .inScope body :: k)
  | .exit id => match exitTo id k with
    | some k => to k
    | none => leaveF C s (some (.exit id))
  | .goto l => match gotoIn l k with
    | some k => to k
    | none => leaveF C s (some (.goto l))
  | .rangeFunc f ps a b =>
    match s.fr.ev C f with
    | some (.func (.func g) first captured) =>
      let (d, h, mark) : Option Nat × AH × List Deferred := match s.fr.roundOf with
        | some l => (match s.h.get l with | some (.loop _ _ _ _ _ _ _ _ d) => (some d, s.h, []) | _ => (none, s.h, []))
        | none => (some s.h.next, s.h.new (.deferred (some [])), [{ target := .collected s.h.next, args := #[] }])
      match d with
      | none => .fail
      | some d =>
        let l := h.next
        let h := h.new (.loop .ready none s.fr.fn s.fr.tmps s.fr.nt ps a b d)
        cond (bodied C.P g)
        (match enterF C g (first ++ #[Value.func (.yield l) #[] #[]] ++ captured) .normal with
         | some fr => .go { fr, cs := { s.fr with todo := .inRangeFunc l :: k, defers := mark ++ s.fr.defers } :: s.cs, h }
         | none => .fail) .fail
    | _ => .fail
  | .region _ ops draw => cond draw (regionStep C run s ops k) (to (.inRegion ops (List.range ops.size) :: k))
  | .refuse _ => .fail

theorem astep_code {run : AS → Option (End × AH)} {s : AS} (hm : s.fr.mode = .run) {c : Code} {k : List Item} (ht : s.fr.todo = .code c :: k) : astep C run s = codeF C run s c k := by
  obtain ⟨⟨fn,tmps,nt,todo,defers,mode,kind,roundOf⟩, scs, sh⟩ := s
  simp only at hm ht
  subst hm ht
  cases c <;> rfl
end
end Go.Ev
namespace Go.Ev
open Go

section
variable {C : Cfg} {low : Nat → Option Obj} {ρ : Emb} {h : AH} {w : World}

theorem code_plain {run : AS → Option (End × AH)} {s : AS} {fr : Frame} {cs bot : List Frame} (m : MR C low ρ s fr cs w) {c : Code} {k k' : List Item}
    (hm' : fr.mode = .run) (ht' : fr.todo = .code c :: k') (hk' : L2 (ItR ρ) k k') {s1 : AS}
    (hc : (∃ a b, c = .seq a b) ∨ c = .skip ∨ (∃ x, c = .label x) ∨ (∃ id b, c = .block id b) ∨ (∃ b, c = .loop b) ∨ (∃ b, c = .scope b) ∨ (∃ id ops, c = .region id ops false))
    (hs : codeF C run s c k = .go s1) : GoOk C low ρ s.h fr cs bot w s1 := by
  rcases hc with ⟨a, b, rfl⟩ | rfl | ⟨x, rfl⟩ | ⟨id, b, rfl⟩ | ⟨b, rfl⟩ | ⟨b, rfl⟩ | ⟨id, ops, rfl⟩ <;> simp only [codeF, cond_false, AOut.go.injEq] at hs
  · exact go_list (bot := bot) m (.cons (.same rfl) (.cons (.same rfl) hk')) hs.symm (step_lone_go (by simp [stepG, stepG.exec, hm', ht']))
  · exact go_list (bot := bot) m hk' hs.symm (step_lone_go (by simp [stepG, stepG.exec, hm', ht']))
  · exact go_list (bot := bot) m hk' hs.symm (step_lone_go (by simp [stepG, stepG.exec, hm', ht']))
  · exact go_list (bot := bot) m (.cons (.same rfl) (.cons (.same rfl) hk')) hs.symm (step_lone_go (by simp [stepG, stepG.exec, hm', ht']))
  · exact go_list (bot := bot) m (.cons (.same rfl) (.cons (.same rfl) hk')) hs.symm (step_lone_go (by simp [stepG, stepG.exec, hm', ht']))
  · exact go_list (bot := bot) m (.cons (.same rfl) (.cons (.same rfl) hk')) hs.symm (step_lone_go (by simp [stepG, stepG.exec, hm', ht']))
  · exact go_list (bot := bot) m (.cons (.same rfl) hk') hs.symm (step_lone_go (by simp [stepG, stepG.exec, hm', ht']))

theorem code_cond {run : AS → Option (End × AH)} {s : AS} {fr : Frame} {cs bot : List Frame} (m : MR C low ρ s fr cs w) {c : Operand} {a b : Code} {k k' : List Item}
    (hm' : fr.mode = .run) (ht' : fr.todo = .code (.cond c a b) :: k') (hk' : L2 (ItR ρ) k k') {s1 : AS}
    (hs : codeF C run s (.cond c a b) k = .go s1) : GoOk C low ρ s.h fr cs bot w s1 := by
  have hev := evOf_rel m.sim m.fr.tm
  simp only [codeF] at hs
  split at hs
  · rename_i hc
    have := (hev c _ hc).bool_inv
    simp only [AOut.go.injEq] at hs
    exact go_list (bot := bot) m (.cons (.same rfl) hk') hs.symm (step_lone_go (by simp [stepG, stepG.exec, hm', ht', this]))
  · rename_i hc
    have := (hev c _ hc).bool_inv
    simp only [AOut.go.injEq] at hs
    exact go_list (bot := bot) m (.cons (.same rfl) hk') hs.symm (step_lone_go (by simp [stepG, stepG.exec, hm', ht', this]))
  · cases hs

theorem code_leave {run : AS → Option (End × AH)} {s : AS} {fr : Frame} {cs bot : List Frame} (m : MR C low ρ s fr cs w) {c : Code} {k k' : List Item}
    (hm' : fr.mode = .run) (ht' : fr.todo = .code c :: k') (hk' : L2 (ItR ρ) k k') {s1 : AS}
    (hc : c = .ret ∨ (∃ i, c = .exit i) ∨ ∃ l, c = .goto l)
    (hs : codeF C run s c k = .go s1) : GoOk C low ρ s.h fr cs bot w s1 := by
  rcases hc with rfl | ⟨id, rfl⟩ | ⟨l, rfl⟩ <;> simp only [codeF] at hs
  · refine leave_sound m hs (fun hr hj => ?_) (fun b v w1 hr hrun => ?_)
    · exact step_lone_go (by simp [stepG, stepG.exec, hm', ht', hr])
    · simp [stepG, stepG.exec, hm', ht', hr, hrun]
  · obtain ⟨e1, e2⟩ := exitTo_rel (id := id) hk'
    split at hs
    · rename_i k1 hx
      obtain ⟨k1', hx', hk1⟩ := e1 k1 hx
      simp only [AOut.go.injEq] at hs
      exact go_list (bot := bot) m hk1 hs.symm (step_lone_go (by simp [stepG, stepG.exec, hm', ht', hx']))
    · rename_i hx
      have hx' := e2 hx
      refine leave_sound m hs (fun hr hj => ?_) (fun b v w1 hr hrun => ?_)
      · rcases hj with h | h <;> cases h
      · simp [stepG, stepG.exec, hm', ht', hx', hr, hrun]
  · obtain ⟨e1, e2⟩ := gotoIn_rel (lb := l) hk'
    split at hs
    · rename_i k1 hx
      obtain ⟨k1', hx', hk1⟩ := e1 k1 hx
      simp only [AOut.go.injEq] at hs
      exact go_list (bot := bot) m hk1 hs.symm (step_lone_go (by simp [stepG, stepG.exec, hm', ht', hx']))
    · rename_i hx
      have hx' := e2 hx
      refine leave_sound m hs (fun hr hj => ?_) (fun b v w1 hr hrun => ?_)
      · rcases hj with h | h <;> cases h
      · simp [stepG, stepG.exec, hm', ht', hx', hr, hrun]
end
end Go.Ev
namespace Go.Ev
open Go

section
variable {C : Cfg} {low : Nat → Option Obj} {ρ : Emb} {h : AH} {w : World}

/-- What a loop over a function begins with. -/
def loopF (s : AS) : Option Nat × AH × List Deferred := match s.fr.roundOf with
  | some l => (match s.h.get l with | some (.loop _ _ _ _ _ _ _ _ d) => (some d, s.h, []) | _ => (none, s.h, []))
  | none => (some s.h.next, s.h.new (.deferred (some [])), [{ target := .collected s.h.next, args := #[] }])

theorem enter_loop {s : AS} {fr : Frame} {cs : List Frame} (m : MR C low ρ s fr cs w) (ps : Array Tmp) (a b : Code) {d : Nat} {h1 : AH} {mark : List Deferred} (hl : loopF s = (some d, h1, mark)) :
    ∃ ρ1 w1 g mark', (Instr.enterLoop fr.fn fr.tmps ps a b fr.roundOf).run C.P w = .ok (g, mark') w1 ∧ L2 (DefR ρ1) mark mark' ∧ (∃ r, ρ1 h1.next = some ⟨g, 0, r⟩) ∧
      Nx C low ρ s.h w ρ1 (h1.new (.loop .ready none s.fr.fn s.fr.tmps s.fr.nt ps a b d)) w1 := by
  unfold loopF at hl
  cases hro : s.fr.roundOf with
  | some l =>
    obtain ⟨g, hg, hro'⟩ := round_some m hro
    simp only [hro] at hl
    split at hl
    · rename_i st p fn t nt ps2 a2 b2 d2 hlp
      cases hl
      obtain ⟨tmps, gd, f2, htm, hnt, hd⟩ := loop_at m.sim hlp hg
      have hnc : ∀ c e f, Obj.loop { state := st, pending := p, fn, tmps, params := ps2, assign := a2, body := b2, defers := gd.b } ≠ .cells c e f := by intro _ _ _ h; cases h
      have hn : ρ s.h.next = none := m.sim.fresh _ (Nat.le_refl _)
      have hle := Emb.le_upd (g := ⟨w.heap.size, 0, 0⟩) hn
      have nx := Nx.new m.sim 0 (o := .loop .ready none s.fr.fn s.fr.tmps s.fr.nt ps a b d)
        (o' := .loop { state := .ready, pending := none, fn := s.fr.fn, tmps := fr.tmps, params := ps, assign := a, body := b, defers := gd.b })
        (.loop (m.fr.tm.mono hle) m.fr.nt (hle _ _ hd)) (w' := { w with heap := w.heap.push (.loop { state := .ready, pending := none, fn := s.fr.fn, tmps := fr.tmps, params := ps, assign := a, body := b, defers := gd.b }) }) rfl ⟨rfl, rfl, rfl⟩
      refine ⟨_, _, w.heap.size, [], ?_, .nil, ⟨0, Emb.upd_self _ _ _⟩, nx⟩
      simp only [Instr.enterLoop, hro', Instr.getLoop, Sem.run_bind, run_getObj f2 hnc, Result.andThen_ok, Sem.run_pure, run_newObj, m.fr.fn]
    · cases hl
  | none =>
    have hro' := round_none m hro
    simp only [hro] at hl
    cases hl
    have nx1 := Nx.new m.sim 0 (o := .deferred (some [])) (o' := .deferred (some [])) (.defS .nil) (w' := { w with heap := w.heap.push (.deferred (some [])) }) rfl ⟨rfl, rfl, rfl⟩
    have s1 := nx1.sim
    have hn : (ρ.upd s.h.next ⟨w.heap.size, 0, 0⟩) (s.h.new (.deferred (some []))).next = none := s1.fresh _ (Nat.le_refl _)
    have hle := Emb.le_upd (g := ⟨(w.heap.push (.deferred (some []))).size, 0, 0⟩) hn
    have hgd : (ρ.upd s.h.next ⟨w.heap.size, 0, 0⟩) s.h.next = some ⟨w.heap.size, 0, 0⟩ := Emb.upd_self _ _ _
    have nx2 := Nx.new s1 0 (o := .loop .ready none s.fr.fn s.fr.tmps s.fr.nt ps a b s.h.next)
        (o' := .loop { state := .ready, pending := none, fn := s.fr.fn, tmps := fr.tmps, params := ps, assign := a, body := b, defers := w.heap.size })
        (.loop ((m.fr.tm.mono nx1.le).mono hle) m.fr.nt (hle _ _ hgd)) (w' := { w with heap := (w.heap.push (.deferred (some []))).push (.loop { state := .ready, pending := none, fn := s.fr.fn, tmps := fr.tmps, params := ps, assign := a, body := b, defers := w.heap.size }) }) rfl ⟨rfl, rfl, rfl⟩
    refine ⟨_, _, (w.heap.push (.deferred (some []))).size, [{ target := .collected w.heap.size, args := #[] }], ?_, ?_, ⟨0, Emb.upd_self _ _ _⟩, nx1.trans nx2⟩
    · simp only [Instr.enterLoop, hro', Sem.run_bind, Result.andThen_ok, Sem.run_pure, run_newObj, m.fr.fn]
    · exact .cons ⟨⟨w.heap.size, 0, 0⟩, hle _ _ hgd, rfl⟩ .nil

theorem code_range (ok : Ok C low) {run : AS → Option (End × AH)} {s : AS} {fr : Frame} {cs bot : List Frame} (m : MR C low ρ s fr cs w) {f : Operand} {ps : Array Tmp} {a b : Code} {k k' : List Item}
    (hm' : fr.mode = .run) (ht' : fr.todo = .code (.rangeFunc f ps a b) :: k') (hk' : L2 (ItR ρ) k k') {s1 : AS}
    (hs : codeF C run s (.rangeFunc f ps a b) k = .go s1) : GoOk C low ρ s.h fr cs bot w s1 := by
  have hev := evOf_rel m.sim m.fr.tm
  simp only [codeF] at hs
  split at hs
  · rename_i g first captured hf
    change (match loopF s with
      | (d, h, mark) => match d with
        | none => AOut.fail
        | some d => cond (bodied C.P g)
            (match enterF C g (first ++ #[Value.func (.yield h.next) #[] #[]] ++ captured) .normal with
             | some fr => .go { fr, cs := { s.fr with todo := .inRangeFunc h.next :: k, defers := mark ++ s.fr.defers } :: s.cs, h := h.new (.loop .ready none s.fr.fn s.fr.tmps s.fr.nt ps a b d) }
             | none => .fail) .fail) = .go s1 at hs
    generalize hlp : loopF s = lp at hs
    obtain ⟨d, h1, mark⟩ := lp
    cases d with
    | none => cases hs
    | some d =>
      simp only at hs
      cases hb : bodied C.P g with
      | false => rw [hb] at hs; cases hs
      | true =>
        rw [hb] at hs
        simp only [cond_true] at hs
        split at hs
        · rename_i fr1 hfr1
          simp only [AOut.go.injEq] at hs
          obtain ⟨ρ1, w1, gl, mark', hrun, hmk, ⟨r, hgl⟩, nx⟩ := enter_loop m ps a b hlp
          have hfv := hev f _ hf
          cases hfe : fr.eval f with
          | func f' first' captured' =>
            rw [hfe] at hfv
            cases hfv with
            | func hfn sa ha sb hb2 =>
              have hfn' : f' = .func g := hfn
              subst hfn'
              let fr2 : Frame := { fr with todo := .inRangeFunc gl :: k', defers := mark' ++ fr.defers, mode := .run }
              have hfe2 : fr2.eval f = .func (.func g) first' captured' := by
                rw [← hfe]; cases f <;> rfl
              have har : AR ρ1 (first ++ #[Value.func (.yield h1.next) #[] #[]] ++ captured) (first' ++ #[Value.func (.yield gl) #[] #[]] ++ captured') := by
                refine AR.append (AR.append (AR.mono nx.le ⟨sa, ha⟩) (AR.single ?_)) (AR.mono nx.le ⟨sb, hb2⟩)
                exact .func ⟨_, hgl, rfl⟩ rfl (by intro i v v' h; simp at h) rfl (by intro i v v' h; simp at h)
              have hst : step C.P (lone fr (cs ++ bot) w) = .next (lone (Frame.enter C.P g (first' ++ #[Value.func (.yield gl) #[] #[]] ++ captured') .normal) (fr2 :: (cs ++ bot)) w1) := by
                refine step_lone_go ?_
                have hinv : ∀ as w, (invoke (.fn (.func g) captured') as).run C.P w = .ok (.enter g (as ++ captured')) w := fun as w => invoke_func ok hb captured' as w
                have hres : (do let d ← resolve fr2.eval { callee := .value f, args := #[.const (.func (.yield gl) #[] #[])], argTypes := #[] } 0; invoke d.target d.args : Sem Next).run C.P w1
                    = .ok (.enter g (first' ++ #[Value.func (.yield gl) #[] #[]] ++ captured')) w1 := by
                  have hc : fr2.eval (.const (.func (.yield gl) #[] #[])) = .func (.yield gl) #[] #[] := rfl
                  simp [resolve, hfe2, Deferred.ofValue, hinv, hc]
                simp only [stepG, stepG.exec, hm', ht']
                have happ : (stepG.apply C.P true fr2 (cs ++ bot) none (do let d ← resolve fr2.eval { callee := .value f, args := #[.const (.func (.yield gl) #[] #[])], argTypes := #[] } 0; invoke d.target d.args) w1).bare =
                    .go { frame := Frame.enter C.P g (first' ++ #[Value.func (.yield gl) #[] #[]] ++ captured') .normal, callers := fr2 :: (cs ++ bot), status := .running, dying := none } w1 := by
                  unfold stepG.apply
                  simp [hres, fr2]
                simp only [Array.append_assoc] at happ ⊢
                simp [hrun]
                simpa using happ
              subst hs
              refine ⟨ρ1, _, fr2 :: cs, w1, .one hst, ⟨enter_rel hfr1 har, .cons ?_ (m.cs.monoF nx.le), nx.sim⟩, nx⟩
              exact ⟨m.fr.fn, m.fr.tm.mono nx.le, m.fr.nt, .cons (.inR hgl) (hk'.mono fun _ _ x => x.mono nx.le), hmk.append (m.fr.defers.mono fun _ _ x => x.mono nx.le), (by have := m.fr.mode.mono nx.le; rw [hm'] at this; exact this), m.fr.kind, m.fr.round.mono nx.le⟩
          | _ => rw [hfe] at hfv; cases hfv
        · cases hs
  · cases hs
end
end Go.Ev
namespace Go.Ev
open Go

section
variable {C : Cfg} {low : Nat → Option Obj} {ρ : Emb} {h : AH} {w : World}

/-- A step at what is no code and no operation. -/
def itemF (C : Cfg) (s : AS) (i : Item) (k : List Item) : AOut :=
  let to (k : List Item) : AOut := .go { s with fr := { s.fr with todo := k } }
  match i with
  | .inBlock _ | .inScope _ => to k
  | .inLoop body => to (.code body :: .inLoop body :: k)
  | .inRegion _ [] => to k
  | .beginRound =>
    match s.fr.roundOf with
    | some l => match s.h.get l with
      | some (.loop .ready p fn t nt ps a b d) => cond (Nat.ble C.base l) (.go { s with fr := { s.fr with todo := k }, h := s.h.put l (.loop .busy p fn t nt ps a b d) }) .fail
      | _ => .fail
    | none => .fail
  | .endRangeFunc l =>
    match s.h.get l with
    | some (.loop .busy ..) => .fail
    | some (.loop _ p fn t nt ps a b d) => cond (Nat.ble C.base l) (.go { s with fr := { s.fr with todo := (p.map Item.code).toList ++ k }, h := s.h.put l (.loop .exhausted p fn t nt ps a b d) }) .fail
    | _ => .fail
  | _ => .fail

theorem astep_item {run : AS → Option (End × AH)} {s : AS} (hm : s.fr.mode = .run) {i : Item} {k : List Item} (ht : s.fr.todo = i :: k) (hn : ∀ c, i ≠ .code c) (hr : ∀ ops j r, i ≠ .inRegion ops (j :: r)) : astep C run s = itemF C s i k := by
  obtain ⟨⟨fn,tmps,nt,todo,defers,mode,kind,roundOf⟩, scs, sh⟩ := s
  simp only at hm ht
  subst hm ht
  cases i with
  | code c => exact absurd rfl (hn c)
  | inRegion ops l =>
    cases l with
    | nil => rfl
    | cons j r => exact absurd rfl (hr ops j r)
  | _ => rfl

theorem items_sound (ok : Ok C low) {run : AS → Option (End × AH)} {s : AS} {fr : Frame} {cs bot : List Frame} (m : MR C low ρ s fr cs w) (hm : s.fr.mode = .run) {i : Item} {k : List Item}
    (ht : s.fr.todo = i :: k) (hn : ∀ c, i ≠ .code c) (hr : ∀ ops j r, i ≠ .inRegion ops (j :: r)) {s1 : AS} (hs : astep C run s = .go s1) : GoOk C low ρ s.h fr cs bot w s1 := by
  have hm' := mode_run m.fr.mode hm
  rw [astep_item hm ht hn hr] at hs
  cases i with
  | code c => exact absurd rfl (hn c)
  | inBlock id =>
    obtain ⟨k', ht', hk'⟩ := todo_plain m.fr.todo ht rfl
    simp only [itemF, AOut.go.injEq] at hs; exact go_list (bot := bot) m hk' hs.symm (step_lone_go (by simp [stepG, stepG.exec, hm', ht']))
  | inScope id =>
    obtain ⟨k', ht', hk'⟩ := todo_plain m.fr.todo ht rfl
    simp only [itemF, AOut.go.injEq] at hs; exact go_list (bot := bot) m hk' hs.symm (step_lone_go (by simp [stepG, stepG.exec, hm', ht']))
  | inLoop b =>
    obtain ⟨k', ht', hk'⟩ := todo_plain m.fr.todo ht rfl
    simp only [itemF, AOut.go.injEq] at hs; exact go_list (bot := bot) m (.cons (.same rfl) (.cons (.same rfl) hk')) hs.symm (step_lone_go (by simp [stepG, stepG.exec, hm', ht']))
  | inRegion ops l =>
    cases l with
    | nil =>
      obtain ⟨k', ht', hk'⟩ := todo_plain m.fr.todo ht rfl
      simp only [itemF, AOut.go.injEq] at hs; exact go_list (bot := bot) m hk' hs.symm (step_lone_go (by simp [stepG, stepG.exec, hm', ht']))
    | cons j r => exact absurd rfl (hr ops j r)
  | inRangeFunc l => simp only [itemF] at hs; cases hs
  | call d a b c => simp only [itemF] at hs; cases hs
  | extern a b => simp only [itemF] at hs; cases hs
  | beginRound =>
    obtain ⟨k', ht', hk'⟩ := todo_plain m.fr.todo ht rfl
    simp only [itemF] at hs
    split at hs
    · rename_i l hro
      obtain ⟨g, hg, hro'⟩ := round_some m hro
      split at hs
      · rename_i p fn t nt ps a b d hl
        obtain ⟨tmps, gd, f2, htm, hnt, hd⟩ := loop_at m.sim hl hg
        cases hb : Nat.ble C.base l with
        | false => rw [hb] at hs; cases hs
        | true =>
          rw [hb] at hs
          simp only [cond_true] at hs
          cases hs
          have hnc : ∀ c e f, Obj.loop { state := .ready, pending := p, fn, tmps, params := ps, assign := a, body := b, defers := gd.b } ≠ .cells c e f := by intro _ _ _ h; cases h
          have nx := Nx.put m.sim hl (Nat.le_of_ble_eq_true hb) hg (o := .loop .busy p fn t nt ps a b d) (o' := .loop { state := .busy, pending := p, fn, tmps, params := ps, assign := a, body := b, defers := gd.b }) (.loop htm hnt hd)
            (w' := { w with heap := w.heap.setIfInBounds g.b (.loop { state := .busy, pending := p, fn, tmps, params := ps, assign := a, body := b, defers := gd.b }) }) rfl ⟨rfl, rfl, rfl⟩
          have hrun : (Instr.beginRound g.b).run C.P w = .ok () { w with heap := w.heap.setIfInBounds g.b (.loop { state := .busy, pending := p, fn, tmps, params := ps, assign := a, body := b, defers := gd.b }) } := by
            simp only [Instr.beginRound, Instr.getLoop, Sem.run_bind, run_getObj f2 hnc, Result.andThen_ok, Sem.run_pure, run_setObj f2 hnc]
          refine go_one m (fr1 := { fr with todo := k' }) (step_lone_go ?_) ⟨m.fr.fn, m.fr.tm, m.fr.nt, hk', m.fr.defers, m.fr.mode, m.fr.kind, m.fr.round⟩ nx
          simp [stepG, stepG.exec, hm', ht', hro', stepG.apply, hrun, Frame.finish]
      · cases hs
    · cases hs
  | endRangeFunc l =>
    have htd := m.fr.todo
    rw [ht] at htd
    cases hfd : fr.todo with
    | nil => rw [hfd] at htd; cases htd
    | cons i' k' =>
      rw [hfd] at htd
      cases htd with
      | cons hit hk' =>
        cases hit with
        | same h => cases h
        | @endR _ g hg =>
          simp only [itemF] at hs
          split at hs
          · cases hs
          · rename_i st p fn t nt ps a b d hnb hl
            obtain ⟨tmps, gd, f2, htm, hnt, hd⟩ := loop_at m.sim hl hg
            cases hb : Nat.ble C.base l with
            | false => rw [hb] at hs; cases hs
            | true =>
              rw [hb] at hs
              simp only [cond_true] at hs
              cases hs
              have hnc : ∀ c e f, Obj.loop { state := st, pending := p, fn, tmps, params := ps, assign := a, body := b, defers := gd.b } ≠ .cells c e f := by intro _ _ _ h; cases h
              have nx := Nx.put m.sim hl (Nat.le_of_ble_eq_true hb) hg (o := .loop .exhausted p fn t nt ps a b d) (o' := .loop { state := .exhausted, pending := p, fn, tmps, params := ps, assign := a, body := b, defers := gd.b }) (.loop htm hnt hd)
                (w' := { w with heap := w.heap.setIfInBounds g.b (.loop { state := .exhausted, pending := p, fn, tmps, params := ps, assign := a, body := b, defers := gd.b }) }) rfl ⟨rfl, rfl, rfl⟩
              have hbz : (st == LoopState.busy) = false := by
                cases st <;> first | rfl | (exfalso; first | exact hnb rfl | exact hnb _ rfl | exact hnb _ _ _ _ _ _ _ _ hl)
              have hrun : (Instr.endLoop g.b).run C.P w = .ok p { w with heap := w.heap.setIfInBounds g.b (.loop { state := .exhausted, pending := p, fn, tmps, params := ps, assign := a, body := b, defers := gd.b }) } := by
                simp only [Instr.endLoop, Instr.getLoop, Sem.run_bind, run_getObj f2 hnc, Result.andThen_ok, Sem.run_pure, hbz, Bool.false_eq_true, if_false, run_setObj f2 hnc]
              refine go_one m (fr1 := { fr with todo := (p.map Item.code).toList ++ k' }) (step_lone_go ?_) ⟨m.fr.fn, m.fr.tm, m.fr.nt, ?_, m.fr.defers, m.fr.mode, m.fr.kind, m.fr.round⟩ nx
              · simp [stepG, stepG.exec, hm', hfd, hrun]
              · cases p with
                | none => exact hk'
                | some c => exact .cons (.same rfl) hk'
          · cases hs
end
end Go.Ev
namespace Go.Ev
open Go

section
variable {C : Cfg} {low : Nat → Option Obj} {ρ : Emb} {h : AH} {w : World}

theorem code_sound (ok : Ok C low) {run : AS → Option (End × AH)} {s : AS} {fr : Frame} {cs bot : List Frame} (m : MR C low ρ s fr cs w) (hm : s.fr.mode = .run) {c : Code} {k : List Item}
    (ht : s.fr.todo = .code c :: k) (hreg : ∀ id ops s1, c = .region id ops true → regionStep C run s ops k = .go s1 → GoOk C low ρ s.h fr cs bot w s1) {s1 : AS} (hs : astep C run s = .go s1) : GoOk C low ρ s.h fr cs bot w s1 := by
  have hm' := mode_run m.fr.mode hm
  obtain ⟨k', ht', hk'⟩ := todo_code m.fr.todo ht
  rw [astep_code hm ht] at hs
  cases c with
  | skip => exact code_plain m hm' ht' hk' (.inr (.inl rfl)) hs
  | label l => exact code_plain m hm' ht' hk' (.inr (.inr (.inl ⟨_, rfl⟩))) hs
  | seq a b => exact code_plain m hm' ht' hk' (.inl ⟨_, _, rfl⟩) hs
  | cond c a b => exact code_cond m hm' ht' hk' hs
  | block id b => exact code_plain m hm' ht' hk' (.inr (.inr (.inr (.inl ⟨_, _, rfl⟩)))) hs
  | loop b => exact code_plain m hm' ht' hk' (.inr (.inr (.inr (.inr (.inl ⟨_, rfl⟩))))) hs
  | scope b => exact code_plain m hm' ht' hk' (.inr (.inr (.inr (.inr (.inr (.inl ⟨_, rfl⟩)))))) hs
  | exit id => exact code_leave m hm' ht' hk' (.inr (.inl ⟨_, rfl⟩)) hs
  | goto l => exact code_leave m hm' ht' hk' (.inr (.inr ⟨_, rfl⟩)) hs
  | ret => exact code_leave m hm' ht' hk' (.inl rfl) hs
  | refuse y => simp only [codeF] at hs; cases hs
  | region id ops draw =>
    cases draw with
    | true => exact hreg id ops s1 rfl (by simpa [codeF] using hs)
    | false => exact code_plain m hm' ht' hk' (.inr (.inr (.inr (.inr (.inr (.inr ⟨_, _, rfl⟩)))))) hs
  | rangeFunc f ps a b => exact code_range ok m hm' ht' hk' hs

/-! ## What a step may give -/
def OnlyGo (o : AOut) : Prop := (∃ s, o = .go s) ∨ o = .fail
theorem OnlyGo.go (s : AS) : OnlyGo (.go s) := .inl ⟨s, rfl⟩
theorem OnlyGo.fail : OnlyGo .fail := .inr rfl
theorem OnlyGo.cond {b : Bool} {x y : AOut} (h : OnlyGo x) (h' : OnlyGo y) : OnlyGo (cond b x y) := by cases b <;> assumption
theorem OnlyGo.not_done {o : AOut} (h : OnlyGo o) {e : End} {h1 : AH} : o ≠ .done e h1 := by
  rcases h with ⟨s, rfl⟩ | rfl <;> intro h <;> cases h
theorem OnlyGo.not_pick {o : AOut} (h : OnlyGo o) {n : Nat} {f : Nat → Option AS} : o ≠ .pick n f := by
  rcases h with ⟨s, rfl⟩ | rfl <;> intro h <;> cases h

theorem retF_only (s : AS) (v : Value) : OnlyGo (retF s v) := by
  unfold retF
  repeat' split
  all_goals first | exact .go _ | exact .fail
theorem leaveF_only (s : AS) (j : Option Code) : OnlyGo (leaveF C s j) := by
  unfold leaveF
  split
  · split <;> first | exact .go _ | exact .fail
  · split
    · exact .cond (retF_only _ _) .fail
    · exact .fail
theorem regionStep_only (run : AS → Option (End × AH)) (s : AS) (ops : Array Oper) (k : List Item) : OnlyGo (regionStep C run s ops k) := by
  unfold regionStep
  refine .cond ?_ .fail
  split
  · exact .fail
  · exact .cond (.go _) .fail
  · exact .cond (.go _) .fail
theorem codeF_only (run : AS → Option (End × AH)) (s : AS) (c : Code) (k : List Item) : OnlyGo (codeF C run s c k) := by
  cases c <;> simp only [codeF] <;> first
    | exact .go _
    | exact .fail
    | exact leaveF_only _ _
    | exact .cond (regionStep_only _ _ _ _) (.go _)
    | (split <;> first | exact .go _ | exact .fail | exact leaveF_only _ _)
    | (split
       · split
         · exact .fail
         · refine .cond ?_ .fail
           split <;> first | exact .go _ | exact .fail
       · exact .fail)
theorem itemF_only (s : AS) (i : Item) (k : List Item) : OnlyGo (itemF C s i k) := by
  unfold itemF
  repeat' split
  all_goals first | exact .go _ | exact .fail | exact .cond (.go _) .fail

/-- The frame that unwinds, the last one, ends the run. -/
theorem unwind_done {s : AS} {fr : Frame} {cs : List Frame} (m : MR C low ρ s fr cs w) {e : End} {h1 : AH} (hs : unwindF C s = .done e h1) :
    cs = [] ∧ (∃ e', fr.leaving C.P w e' ∧ EndR ρ e e') ∧ h1 = s.h := by
  have hdf := m.fr.defers
  unfold unwindF at hs
  split at hs
  · split at hs
    · revert hs
      cases Nat.ble C.base _ <;> intro hs <;> cases hs
    · cases hs
  · revert hs
    cases bodied C.P _ <;> simp only [cond_true, cond_false] <;> intro hs
    · cases hs
    · split at hs <;> cases hs
  · cases hs
  · rename_i hd
    rw [hd] at hdf
    have hfd : fr.defers = [] := by cases hx : fr.defers with | nil => rfl | cons a b => rw [hx] at hdf; cases hdf
    have hmo := m.fr.mode
    split at hs
    · cases hs
    · rename_i chain hch
      rw [hch] at hmo
      split at hs
      · cases hs
      · rename_i hcs
        split at hs
        · rename_i fn hfn
          cases hs
          cases hfm : fr.mode <;> rw [hfm] at hmo <;> cases hmo
          rename_i hl
          exact ⟨callers_nil m.cs hcs, ⟨.panicked _, ⟨hfm, hfd, fn, by rw [m.fr.fn]; exact hfn⟩, _, rfl, hl⟩, rfl⟩
        · cases hs
    · rename_i hch
      rw [hch] at hmo
      split at hs
      · cases hs
      · rename_i fn hfn
        split at hs
        · rename_i vs hvs
          obtain ⟨v', hr, hv⟩ := results_run m.sim m.fr.tm hvs
          cases hfm : fr.mode <;> rw [hfm] at hmo <;> cases hmo
          split at hs
          · rename_i hcs hkd
            cases hs
            exact ⟨callers_nil m.cs hcs, ⟨.returned _, ⟨hfm, hfd, m.fr.kind.trans hkd, fn, by rw [m.fr.fn]; exact hfn, hr⟩, _, rfl, hv⟩, rfl⟩
          · cases hs
          · exact absurd hs (retF_only _ _).not_done
        · cases hs

theorem unwind_pick {s : AS} {n : Nat} {f : Nat → Option AS} : unwindF C s ≠ .pick n f := by
  intro hs
  unfold unwindF at hs
  split at hs
  · split at hs
    · revert hs
      cases Nat.ble C.base _ <;> intro hs <;> cases hs
    · cases hs
  · revert hs
    cases bodied C.P _ <;> simp only [cond_true, cond_false] <;> intro hs
    · cases hs
    · split at hs <;> cases hs
  · cases hs
  · split at hs
    · cases hs
    · split at hs
      · cases hs
      · split at hs <;> cases hs
    · split at hs
      · cases hs
      · split at hs
        · split at hs
          · cases hs
          · cases hs
          · exact absurd hs (retF_only _ _).not_pick
        · cases hs

/-- No operation is wanted here. -/
theorem unwanted_go {s : AS} {fr : Frame} {cs bot : List Frame} (m : MR C low ρ s fr cs w) (hm : s.fr.mode = .run) {ops : Array Oper} {i : Nat} {rest : List Nat} {k : List Item}
    (ht : s.fr.todo = .inRegion ops (i :: rest) :: k) {o : Oper} (ho : ops[i]? = some o) (hw : wantedF ops s.fr.tmps o = some false) {f : AF} (hf : finishF s.fr undef = some f) :
    GoOk C low ρ s.h fr cs bot w { s with fr := f } := by
  have hm' := mode_run m.fr.mode hm
  obtain ⟨k', ht', hk'⟩ := todo_region m.fr.todo ht
  have hw' := wanted_rel m.fr.tm hw
  refine go_one m (fr1 := fr.finish undef) (step_lone_go ?_) (finish_rel hf m.fr undef_rel) (Nx.refl m.sim)
  simp [stepG, stepG.exec, hm', ht', ho, hw']
end
end Go.Ev
namespace Go.Ev
open Go

theorem nbeq {a b : Nat} : Nat.beq a b = true ↔ a = b := ⟨Nat.eq_of_beq_eq_true, fun h => by subst h; exact Nat.beq_refl a⟩
theorem nblt {a b : Nat} : Nat.blt a b = true ↔ a < b := ⟨Nat.le_of_ble_eq_true, Nat.ble_eq_true_of_le⟩

/-! ## Values that are the same -/
theorem eqFn_eq {f g : Fn} (h : eqFn f g = true) : f = g := by
  cases f <;> cases g <;> simp [eqFn] at h <;> (subst h; rfl)
theorem eqON_eq {a b : Option Nat} (h : eqON a b = true) : a = b := by
  cases a <;> cases b <;> simp [eqON] at h <;> first | rfl | (subst h; rfl)
theorem eqAddr_eq {a b : Option Addr} (h : eqAddr a b = true) : a = b := by
  cases a with
  | none => cases b with
    | none => rfl
    | some b => simp [eqAddr] at h
  | some a => cases b with
    | none => simp [eqAddr] at h
    | some b =>
      obtain ⟨b1, o1, s1⟩ := a
      obtain ⟨b2, o2, s2⟩ := b
      simp only [eqAddr, Bool.and_eq_true, nbeq, Option.isNone_iff_eq_none] at h
      obtain ⟨⟨⟨rfl, rfl⟩, rfl⟩, rfl⟩ := h
      rfl

theorem bytes_eq {s s' : ByteArray} (h : (s.data.toList == s'.data.toList) = true) : s = s' := by
  have h2 : s.data.toList = s'.data.toList := by simpa using h
  cases s with | mk a => cases s' with | mk b =>
    have h3 : a = b := Array.toList_inj.1 h2
    rw [h3]

mutual
theorem eqV_eq : ∀ (a b : Value), eqV a b = true → a = b
  | .bool a, b, h => by cases b <;> simp [eqV] at h; rw [h]
  | .int j a, b, h => by cases b <;> simp [eqV] at h; rw [h.1, h.2]
  | .string a, b, h => by
    cases b <;> simp only [eqV, Bool.false_eq_true] at h
    rw [bytes_eq h]
  | .pointer a, b, h => by cases b <;> simp only [eqV, Bool.false_eq_true] at h; rw [eqAddr_eq h]
  | .slice a l c, b, h => by
    cases b <;> simp only [eqV, Bool.and_eq_true, Bool.false_eq_true, nbeq] at h
    rw [eqAddr_eq h.1.1, h.1.2, h.2]
  | .map a, b, h => by cases b <;> simp only [eqV, Bool.false_eq_true] at h; rw [eqON_eq h]
  | .func f ⟨a⟩ ⟨b⟩, v, h => by
    cases v <;> simp only [eqV, Bool.false_eq_true] at h
    rename_i g c d
    obtain ⟨c⟩ := c
    obtain ⟨d⟩ := d
    simp only [eqV, Bool.and_eq_true] at h
    rw [eqFn_eq h.1.1, eqL_eq a c h.1.2, eqL_eq b d h.2]
  | .nilFunc, b, h => by cases b <;> simp [eqV] at h; rfl
  | .iface t v, b, h => by
    cases b <;> simp only [eqV, Bool.and_eq_true, Bool.false_eq_true, nbeq] at h
    rw [h.1, eqV_eq v _ h.2]
  | .nilIface, b, h => by cases b <;> simp [eqV] at h; rfl
  | .agg ⟨a⟩, v, h => by
    cases v <;> simp only [eqV, Bool.false_eq_true] at h
    rename_i c
    obtain ⟨c⟩ := c
    simp only [eqV] at h
    rw [eqL_eq a c h]
  | .tuple ⟨a⟩, v, h => by
    cases v <;> simp only [eqV, Bool.false_eq_true] at h
    rename_i c
    obtain ⟨c⟩ := c
    simp only [eqV] at h
    rw [eqL_eq a c h]
  | .float .., b, h => by cases b <;> simp [eqV] at h
  | .complex .., b, h => by cases b <;> simp [eqV] at h
  | .chan .., b, h => by cases b <;> simp [eqV] at h
theorem eqL_eq : ∀ (l m : List Value), eqL l m = true → l = m
  | [], m, h => by cases m <;> simp [eqL] at h; rfl
  | v :: l, m, h => by
    cases m with
    | nil => simp [eqL] at h
    | cons w m =>
      simp only [eqL, Bool.and_eq_true] at h
      rw [eqV_eq v w h.1, eqL_eq l m h.2]
end

theorem eqEntries_eq : ∀ (l m : List MapEntry), eqEntries l m = true → l = m
  | [], m, h => by cases m <;> simp [eqEntries] at h; rfl
  | a :: l, m, h => by
    cases m with
    | nil => simp [eqEntries] at h
    | cons b m =>
      simp only [eqEntries, Bool.and_eq_true, nbeq] at h
      obtain ⟨k, v, n⟩ := a
      obtain ⟨k', v', n'⟩ := b
      simp only at h
      rw [eqV_eq _ _ h.1.1.1, eqV_eq _ _ h.1.1.2, h.1.2, eqEntries_eq l m h.2]

theorem eqO_eq {a b : AO} (h : eqO a b = true) : a = b := by
  cases a <;> cases b <;> simp only [eqO, Bool.false_eq_true] at h
  · rename_i c e o f c' e' o' f'
    obtain ⟨c⟩ := c
    obtain ⟨c'⟩ := c'
    simp only [eqO, Bool.and_eq_true, nbeq, beq_iff_eq] at h
    obtain ⟨⟨⟨rfl, rfl⟩, rfl⟩, hc⟩ := h
    rw [eqL_eq _ _ hc]
  · rename_i es c es' c'
    obtain ⟨es⟩ := es
    obtain ⟨es'⟩ := es'
    simp only [eqO, Bool.and_eq_true, nbeq] at h
    rw [h.1, eqEntries_eq _ _ h.2]
  · rename_i m a l b m' a' l' b'
    obtain ⟨l⟩ := l
    obtain ⟨l'⟩ := l'
    simp only [eqO, Bool.and_eq_true, nbeq, beq_iff_eq] at h
    obtain ⟨⟨⟨h1, rfl⟩, rfl⟩, rfl⟩ := h
    rw [eqON_eq h1]
  · simp only [Bool.and_eq_true, nbeq] at h
    rw [h.1, bytes_eq h.2]

theorem mergeT_get : ∀ (t t' : Tr AO) (k : Nat) (o : AO), (mergeT t t').get k = some o → t.get k = some o ∧ t'.get k = some o := by
  intro t
  induction t with
  | nil => intro t' k o h; simp only [mergeT, Tr.get_nil] at h; cases h
  | node o1 l r ihl ihr =>
    intro t' k o h
    cases t' with
    | nil => simp only [mergeT, Tr.get_nil] at h; cases h
    | node o2 l' r' =>
      simp only [mergeT] at h
      by_cases hk : k = 0
      · subst hk
        simp only [Tr.get_zero] at h ⊢
        split at h
        · rename_i a b
          cases he : eqO a b with
          | false => rw [he] at h; cases h
          | true =>
            rw [he] at h
            cases h
            rw [eqO_eq he]
            exact ⟨rfl, rfl⟩
        · cases h
      · rcases Nat.mod_two_eq_zero_or_one k with hp | hp
        · rw [Tr.get_even _ _ _ hp hk] at h ⊢
          rw [Tr.get_even _ _ _ hp hk]
          exact ihr _ _ _ h
        · rw [Tr.get_odd _ _ _ hp] at h ⊢
          rw [Tr.get_odd _ _ _ hp]
          exact ihl _ _ _ h

/-- The first result says no more than the second. -/
def LeR (r r' : End × AH) : Prop := r'.1 = r.1 ∧ r.2.next = r'.2.next ∧ ∀ k o, r.2.get k = some o → r'.2.get k = some o
theorem LeR.refl (r : End × AH) : LeR r r := ⟨rfl, rfl, fun _ _ h => h⟩
theorem LeR.trans {a b c : End × AH} (h : LeR a b) (h' : LeR b c) : LeR a c := ⟨h'.1.trans h.1, h.2.1.trans h'.2.1, fun k o e => h'.2.2 k o (h.2.2 k o e)⟩

theorem mergeE_eq {e e' : End} (h : mergeE e e' = true) : e' = e := by
  cases e <;> cases e' <;> simp only [mergeE, Bool.false_eq_true] at h
  rw [eqV_eq _ _ h]

theorem mergeR_le {x y : Option (End × AH)} {z : End × AH} (h : mergeR x y = some z) : ∃ a b, x = some a ∧ y = some b ∧ LeR z a ∧ LeR z b := by
  unfold mergeR at h
  split at h
  · rename_i e h1 e' h2
    cases hc : (mergeE e e' && Nat.beq h1.next h2.next) with
    | false => rw [hc] at h; cases h
    | true =>
      rw [hc] at h
      simp only [cond_true, Option.some.injEq] at h
      subst h
      simp only [Bool.and_eq_true, nbeq] at hc
      refine ⟨_, _, rfl, rfl, ⟨rfl, rfl, fun k o hk => (mergeT_get _ _ k o hk).1⟩, ⟨mergeE_eq hc.1, hc.2, fun k o hk => (mergeT_get _ _ k o hk).2⟩⟩
  · cases h

theorem pickAll_le (f : Nat → Option (End × AH)) : ∀ (n : Nat) (z : End × AH), pickAll f n = some z → ∀ j, j < n → ∃ a, f j = some a ∧ LeR z a
  | 0, z, h, j, hj => absurd hj (Nat.not_lt_zero j)
  | 1, z, h, j, hj => by
    have : j = 0 := by omega
    subst this
    exact ⟨z, h, .refl z⟩
  | n + 2, z, h, j, hj => by
    simp only [pickAll] at h
    obtain ⟨a, b, ha, hb, la, lb⟩ := mergeR_le h
    by_cases hjn : j = n + 1
    · subst hjn; exact ⟨a, ha, la⟩
    · obtain ⟨c, hc, lc⟩ := pickAll_le f (n + 1) b hb j (by omega)
      exact ⟨c, hc, lb.trans lc⟩
end Go.Ev
namespace Go.Ev
open Go

/-! ## Lists and numbers -/
theorem memN_iff {n : Nat} {l : List Nat} : memN n l = true ↔ n ∈ l := by
  induction l with
  | nil => simp [memN]
  | cons m l ih => simp only [memN, Bool.or_eq_true, nbeq, ih, List.mem_cons]; exact or_congr_left eq_comm

theorem pickT_get {t : Tr Value} {l : List Tmp} {d : Nat} {v : Value} (h : (pickT t l).get d = some v) : d ∈ l ∧ t.get d = some v := by
  induction l with
  | nil => cases h
  | cons x l ih =>
    simp only [pickT, Tr.get_set] at h
    by_cases hd : d = x
    · subst hd; rw [if_pos rfl] at h; exact ⟨.head _, h⟩
    · rw [if_neg hd] at h; exact ⟨.tail _ (ih h).1, (ih h).2⟩

theorem forget_get : ∀ {sl : List Slot} {t : Tr Value} {d : Nat} {v : Value}, (forget sl t).get d = some v → t.get d = some v ∧ ∀ s ∈ sl, s.o.dst ≠ some d
  | [], _, _, _, h => ⟨h, fun _ hs => by cases hs⟩
  | s :: sl, t, d, v, h => by
    simp only [forget] at h
    obtain ⟨h1, h2⟩ := forget_get h
    cases hd : s.o.dst with
    | none =>
      simp only [hd] at h1
      exact ⟨h1, fun x hx => by
        cases hx with
        | head => rw [hd]; intro e; cases e
        | tail _ hx => exact h2 x hx⟩
    | some e =>
      simp only [hd, Tr.get_set] at h1
      by_cases hde : d = e
      · rw [if_pos hde] at h1; cases h1
      · rw [if_neg hde] at h1
        exact ⟨h1, fun x hx => by
          cases hx with
          | head => rw [hd]; intro e2; cases e2; exact hde rfl
          | tail _ hx => exact h2 x hx⟩

theorem slotsOf_get (P : Program) (ops : Array Oper) (bs : Array Nat) : ∀ (l : List Oper) (i j : Nat),
    (slotsOf P ops bs l i)[j]? = (l[j]?).map fun o => { i := i + j, o, c := clsOf P o.op, b := bs.getD (i + j) 0, looks := looksOf ops o }
  | [], i, j => by simp [slotsOf]
  | o :: l, i, 0 => by simp [slotsOf]
  | o :: l, i, j + 1 => by
    simp only [slotsOf, List.getElem?_cons_succ, slotsOf_get P ops bs l (i + 1) j]
    have : i + 1 + j = i + (j + 1) := by omega
    rw [this]

theorem slotsOf_length (P : Program) (ops : Array Oper) (bs : Array Nat) : ∀ (l : List Oper) (i : Nat), (slotsOf P ops bs l i).length = l.length
  | [], _ => rfl
  | o :: l, i => by simp [slotsOf, slotsOf_length P ops bs l (i + 1)]

theorem rulesOk_spec (all : List Slot) : ∀ (l : List Slot), rulesOk all l = true → l.Pairwise (fun e f => pairOk all e f = true) ∧ ∀ s ∈ l, selfOk s = true
  | [], _ => ⟨.nil, fun _ h => by cases h⟩
  | s :: l, h => by
    simp only [rulesOk, Bool.and_eq_true, List.all_eq_true] at h
    obtain ⟨h1, h2⟩ := rulesOk_spec all l h.2
    exact ⟨.cons h.1.2 h1, fun x hx => by
      cases hx with
      | head => exact h.1.1
      | tail _ hx => exact h2 x hx⟩

/-! ## Ancestors -/
theorem bits_fold (acc : Array Nat) (j : Nat) : ∀ (l : List Edge) (s : Nat),
    (l.foldl (fun s e => if Region.binds .any e then s ||| 2 ^ e.on ||| acc.getD e.on 0 else s) s).testBit j = true →
    s.testBit j = true ∨ ∃ e ∈ l, Region.binds .any e = true ∧ (e.on = j ∨ (acc.getD e.on 0).testBit j = true)
  | [], s, h => .inl h
  | e :: l, s, h => by
    simp only [List.foldl_cons] at h
    rcases bits_fold acc j l _ h with h | ⟨e2, m, h⟩
    · cases hb : Region.binds .any e with
      | false => rw [hb] at h; exact .inl (by simpa using h)
      | true =>
        rw [hb] at h
        simp only [if_true, Nat.testBit_or, Bool.or_eq_true, Nat.testBit_two_pow, decide_eq_true_eq] at h
        rcases h with (h | h) | h
        · exact .inl h
        · exact .inr ⟨e, .head _, hb, .inl h⟩
        · exact .inr ⟨e, .head _, hb, .inr h⟩
    · exact .inr ⟨e2, .tail _ m, h⟩

def beforeF (acc : Array Nat) (o : Oper) : Nat := o.after.foldl (fun s e => if Region.binds .any e then s ||| 2 ^ e.on ||| acc.getD e.on 0 else s) 0

theorem before_grow : ∀ (l : List Oper) (acc : Array Nat),
    acc.size ≤ (l.foldl (fun acc o => acc.push (beforeF acc o)) acc).size ∧
    (∀ i, i < acc.size → (l.foldl (fun acc o => acc.push (beforeF acc o)) acc).getD i 0 = acc.getD i 0) ∧
    ∀ j o, l[j]? = some o → ∃ acc', acc'.size = acc.size + j ∧ (∀ i, i < acc'.size → (l.foldl (fun acc o => acc.push (beforeF acc o)) acc).getD i 0 = acc'.getD i 0) ∧
      (l.foldl (fun acc o => acc.push (beforeF acc o)) acc).getD (acc.size + j) 0 = beforeF acc' o
  | [], acc => ⟨Nat.le_refl _, fun _ _ => rfl, fun j o h => by simp at h⟩
  | o :: l, acc => by
    obtain ⟨h1, h2, h3⟩ := before_grow l (acc.push (beforeF acc o))
    simp only [Array.size_push] at h1 h2 h3
    simp only [List.foldl_cons]
    refine ⟨by omega, fun i hi => ?_, fun j o' ho => ?_⟩
    · rw [h2 i (by omega)]; simp [Array.getElem?_push, Nat.ne_of_lt hi]
    · cases j with
      | zero =>
        simp only [List.getElem?_cons_zero, Option.some.injEq] at ho
        subst ho
        refine ⟨acc, rfl, fun i hi => ?_, ?_⟩
        · rw [h2 i (by omega)]; simp [Array.getElem?_push, Nat.ne_of_lt hi]
        · rw [Nat.add_zero, h2 acc.size (by omega)]; simp
      | succ j =>
        simp only [List.getElem?_cons_succ] at ho
        obtain ⟨acc', e1, e2, e3⟩ := h3 j o' ho
        refine ⟨acc', by omega, e2, ?_⟩
        have : acc.size + (j + 1) = acc.size + 1 + j := by omega
        rw [this]; exact e3

theorem before_bit {ops : Array Oper} {i j : Nat} (h : ((Region.before ops).getD i 0).testBit j = true) :
    ∃ o e, ops[i]? = some o ∧ e ∈ o.after ∧ Region.binds .any e = true ∧ (e.on = j ∨ ((Region.before ops).getD e.on 0).testBit j = true) := by
  have hb : Region.before ops = ops.toList.foldl (fun acc o => acc.push (beforeF acc o)) #[] := by
    unfold Region.before
    rw [← Array.foldl_toList]
    rfl
  obtain ⟨_, _, h3⟩ := before_grow ops.toList #[]
  rw [← hb] at h3
  cases ho : ops[i]? with
  | none =>
    have hsz : (Region.before ops).size = ops.size := by
      have : ∀ (l : List Oper) (acc : Array Nat), (l.foldl (fun acc o => acc.push (beforeF acc o)) acc).size = acc.size + l.length := by
        intro l
        induction l with
        | nil => intro acc; rfl
        | cons o l ih => intro acc; simp only [List.foldl_cons, ih, Array.size_push, List.length_cons]; omega
      rw [hb, this]; simp
    have hi : ops.size ≤ i := by
      rcases Nat.lt_or_ge i ops.size with h' | h'
      · simp [h'] at ho
      · exact h'
    rw [Array.getD_eq_getD_getElem?, Array.getElem?_eq_none (by omega)] at h
    simp at h
  | some o =>
    obtain ⟨acc', e1, e2, e3⟩ := h3 i o (by simpa using ho)
    simp only [List.size_toArray, List.length_nil, Nat.zero_add] at e1 e3
    rw [e3] at h
    unfold beforeF at h
    rw [← Array.foldl_toList] at h
    rcases bits_fold acc' j o.after.toList 0 h with h | ⟨e, m, hbd, h⟩
    · simp at h
    · refine ⟨o, e, rfl, by simpa using m, hbd, h.imp id fun h => ?_⟩
      rcases Nat.lt_or_ge e.on acc'.size with h' | h'
      · rw [e2 _ h']; exact h
      · rw [Array.getD_eq_getD_getElem?, Array.getElem?_eq_none h'] at h
        simp at h

/-! ## What only reads leaves the heap -/
section
variable {C : Cfg} {h : AH}
def Keeps (h : AH) (x : Option OpR) : Prop := ∀ v h1, x = some (.val v h1) → h1 = h
theorem Keeps.val (v : Value) : Keeps h (some (.val v h)) := fun _ _ e => by cases e; rfl
theorem Keeps.none : Keeps h none := fun _ _ e => by cases e
theorem Keeps.map {α : Type} {x : Option α} {f : α → OpR} (hf : ∀ a v h1, f a = .val v h1 → h1 = h) : Keeps h (x.map f) := fun v h1 e => by
  simp only [Option.map_eq_some_iff] at e
  obtain ⟨a, _, e⟩ := e
  exact hf a v h1 e
theorem Keeps.bind {α : Type} {x : Option α} {f : α → Option OpR} (hf : ∀ a, Keeps h (f a)) : Keeps h (x.bind f) := fun v h1 e => by
  simp only [Option.bind_eq_some_iff] at e
  obtain ⟨a, _, e⟩ := e
  exact hf a v h1 e
theorem Keeps.cond {b : Bool} {x y : Option OpR} (hx : Keeps h x) (hy : Keeps h y) : Keeps h (cond b x y) := by cases b <;> assumption
theorem aplain_keeps {ev : Ev} {o : Oper} : Keeps h (aplain C ev h o) := by
  unfold aplain
  refine .cond ?_ .none
  split
  · exact .cond (.val _) .none
  · intro v h1 e; cases e
  · exact .none
theorem Keeps.or {x y : Option OpR} (hx : Keeps h x) (hy : Keeps h y) : Keeps h (match x with | some r => some r | none => y) := by
  cases x with
  | none => exact hy
  | some r => exact hx
theorem aconvert_keeps {s d : TypeId} {v : Value} (hd : ∀ e, C.P.underlying d ≠ some (.slice e)) : Keeps h (aconvert C h s d v) := by
  unfold aconvert
  split
  · exact absurd (by assumption) (hd _)
  · split
    · refine .bind fun _ => .map fun _ _ _ e => ?_
      cases e; rfl
    · exact .none
  · exact absurd (by assumption) (hd _)
  · split
    · exact .cond (.val _) .none
    · exact .none
  · split
    · exact .cond (.val _) .none
    · exact .none
  · exact .none
theorem asliceData_keeps {args : Array Value} : Keeps h (aunsafeSliceData C h args) := by
  unfold aunsafeSliceData
  split
  · exact .val _
  · refine .cond (.cond (.val _) .none) ?_
    split
    · split
      · exact .cond (.val _) .none
      · exact .none
    · exact .none
  · exact .none

theorem aop_keeps {ev : Ev} {o : Oper} (hc : clsOf C.P o.op = 1) : Keeps h (aop C ev h o) := by
  unfold aop
  cases hop : o.op <;> rw [hop] at hc <;> simp only
  case convert s d x =>
    refine .bind fun v => ?_
    have hd : ∀ e, C.P.underlying d ≠ some (.slice e) := fun e he => by simp [clsOf, he] at hc
    have hk := aconvert_keeps (h := h) (s := s) (v := v) hd
    split
    · rename_i r hr
      rw [hr] at hk; exact hk
    · exact aplain_keeps
  case call c =>
    obtain ⟨callee, args, argTypes⟩ := c
    unfold acall
    split
    · exact .none
    · cases callee with
      | value f => simp [clsOf] at hc
      | invoke r n => exact .none
      | builtin b =>
        cases b <;> simp only <;> first
          | (simp [clsOf] at hc; done)
          | exact aplain_keeps
          | exact asliceData_keeps
          | exact .map fun _ _ _ e => by cases e; rfl
          | (split
             · exact .val _
             · exact aplain_keeps)
  case makeFunc fn a b =>
    cases fn <;> simp only <;> first
      | exact .none
      | (split
         · exact .val _
         · exact .none)
  all_goals first
    | (simp [clsOf] at hc; done)
    | (repeat' (first
        | exact Keeps.val _
        | exact Keeps.none
        | exact aplain_keeps
        | exact Keeps.map (fun _ _ _ e => by cases e; rfl)
        | refine Keeps.or aplain_keeps ?_
        | refine Keeps.bind fun _ => ?_
        | refine Keeps.cond ?_ ?_
        | split))
  all_goals
    rename_i r hr
    have hk := aplain_keeps (C := C) (h := h) (ev := ev) (o := o)
    rw [hr] at hk
    exact hk

theorem aop_reader {ev : Ev} {o : Oper} (hc : clsOf C.P o.op = 1) {v : Value} {h1 : AH} (ha : aop C ev h o = some (.val v h1)) : h1 = h := aop_keeps hc v h1 ha
end
end Go.Ev
namespace Go.Ev
open Go

section
variable {C : Cfg} {run : AS → Option (End × AH)} {ops : Array Oper} {nt : Nat}

/-- What an entry was made by. -/
def EntSem (C : Cfg) (run : AS → Option (End × AH)) (e : Ent) : Prop :=
  (e.want = false ∧ e.v = undef ∧ e.post = e.pre ∧ e.s.c ≠ 3) ∨
  (e.want = true ∧ e.s.c < 2 ∧ e.post = e.pre) ∨
  (e.want = true ∧ e.s.c = 3 ∧ aop C (evOf C e.pt) e.pre e.s.o = some (.val e.v e.post)) ∨
  (e.want = true ∧ ¬ e.s.c < 2 ∧ e.s.c ≠ 3 ∧
    (aop C (evOf C e.pt) e.pre e.s.o = some (.val e.v e.post) ∨ (aop C (evOf C e.pt) e.pre e.s.o = some (.skip e.post) ∧ e.v = undef) ∨
      ∃ f args, aop C (evOf C e.pt) e.pre e.s.o = some (.enter f args) ∧ runCall C run f args e.pre = some (.returned e.v, e.post)))

def PanSem (C : Cfg) (run : AS → Option (End × AH)) (pt : Tr Value) (o : Oper) (pre : AH) (ch : List PanicEntry) (h : AH) : Prop :=
  (∃ v, aop C (evOf C pt) pre o = some (.panic v h) ∧ ch = [{ v, recovered := false }]) ∨
  ∃ f args, aop C (evOf C pt) pre o = some (.enter f args) ∧ runCall C run f args pre = some (.panicked ch, h)

theorem entOf_ent {s : Slot} {t : Tr Value} {cur last : AH} {e : Ent} (h : entOf C run ops s t cur last = some (.ent e)) :
    e.s = s ∧ e.pt = pickT t s.looks ∧ e.pre = cur ∧ wantedF ops e.pt s.o = some e.want ∧ EntSem C run e := by
  unfold entOf at h
  simp only at h
  split at h
  · cases h
  · rename_i hw
    cases hc : Nat.beq s.c 3 with
    | true => rw [hc] at h; cases h
    | false =>
      rw [hc] at h
      cases h
      exact ⟨rfl, rfl, rfl, hw, .inl ⟨rfl, rfl, rfl, fun e => by rw [e] at hc; cases hc⟩⟩
  · rename_i hw
    cases hc : Nat.blt s.c 2 with
    | true =>
      rw [hc] at h
      simp only [cond_true] at h
      split at h
      · cases h
        exact ⟨rfl, rfl, rfl, hw, .inr (.inl ⟨rfl, nblt.1 hc, rfl⟩)⟩
      · cases h
    | false =>
      have hc' : ¬ s.c < 2 := fun h => by rw [nblt.2 h] at hc; cases hc
      rw [hc] at h
      simp only [cond_false] at h
      cases h3 : Nat.beq s.c 3 with
      | true =>
        rw [h3] at h
        simp only [cond_true] at h
        split at h
        · rename_i ha
          cases h
          exact ⟨rfl, rfl, rfl, hw, .inr (.inr (.inl ⟨rfl, nbeq.1 h3, ha⟩))⟩
        · cases h
      | false =>
        have h3' : s.c ≠ 3 := fun e => by rw [e] at h3; cases h3
        rw [h3] at h
        simp only [cond_false] at h
        split at h
        · rename_i ha
          cases h
          exact ⟨rfl, rfl, rfl, hw, .inr (.inr (.inr ⟨rfl, hc', h3', .inl ha⟩))⟩
        · rename_i ha
          cases h
          exact ⟨rfl, rfl, rfl, hw, .inr (.inr (.inr ⟨rfl, hc', h3', .inr (.inl ⟨ha, rfl⟩)⟩))⟩
        · rename_i f args ha
          split at h
          · rename_i hr
            cases h
            exact ⟨rfl, rfl, rfl, hw, .inr (.inr (.inr ⟨rfl, hc', h3', .inr (.inr ⟨f, args, ha, hr⟩)⟩))⟩
          · cases h
          · cases h
        · cases h
        · cases h

theorem entOf_panic {s : Slot} {t : Tr Value} {cur last : AH} {ch : List PanicEntry} {h1 : AH} (h : entOf C run ops s t cur last = some (.panic ch h1)) :
    wantedF ops (pickT t s.looks) s.o = some true ∧ PanSem C run (pickT t s.looks) s.o cur ch h1 := by
  unfold entOf at h
  simp only at h
  split at h
  · cases h
  · rename_i hw
    cases hc : Nat.beq s.c 3 <;> rw [hc] at h <;> cases h
  · rename_i hw
    refine ⟨hw, ?_⟩
    cases hc : Nat.blt s.c 2 with
    | true =>
      rw [hc] at h
      simp only [cond_true] at h
      split at h <;> cases h
    | false =>
      rw [hc] at h
      simp only [cond_false] at h
      cases h3 : Nat.beq s.c 3 with
      | true =>
        rw [h3] at h
        simp only [cond_true] at h
        split at h <;> cases h
      | false =>
        rw [h3] at h
        simp only [cond_false] at h
        split at h
        · cases h
        · cases h
        · rename_i f args ha
          split at h
          · cases h
          · rename_i hr
            cases h
            exact .inr ⟨f, args, ha, hr⟩
          · cases h
        · rename_i ha
          cases h
          exact .inl ⟨_, ha, rfl⟩
        · cases h

/-! ## The run in the text's order -/
inductive RTrc (C : Cfg) (run : AS → Option (End × AH)) (ops : Array Oper) (nt : Nat) : Tr Value → AH → AH → List Slot → List Ent → Tr Value → AH → AH → Prop
  | nil (t : Tr Value) (cur last : AH) : RTrc C run ops nt t cur last [] [] t cur last
  | cons {s : Slot} {l : List Slot} {t t' : Tr Value} {cur last : AH} {e : Ent} {es : List Ent} {T : Tr Value} {H L : AH} (he : entOf C run ops s t cur last = some (.ent e))
      (hp : putT t nt s.o.dst (some e.v) = some t') (hr : RTrc C run ops nt t' e.post (cond (Nat.beq s.c 2) e.post last) l es T H L) : RTrc C run ops nt t cur last (s :: l) (e :: es) T H L

theorem regionRun_ok : ∀ {sl : List Slot} {t : Tr Value} {cur last : AH} {es : List Ent} {T : Tr Value} {H : AH}, regionRun C run ops nt sl t cur last = some (.ok es T H) →
    ∃ L, RTrc C run ops nt t cur last sl es T H L
  | [], t, cur, last, es, T, H, h => by cases h; exact ⟨_, .nil _ _ _⟩
  | s :: l, t, cur, last, es, T, H, h => by
    simp only [regionRun] at h
    split at h
    · cases h
    · cases h
    · rename_i e he
      split at h
      · cases h
      · rename_i t' hp
        split at h
        · rename_i hr
          cases h
          obtain ⟨L, hL⟩ := regionRun_ok hr
          exact ⟨L, .cons he hp hL⟩
        · cases h
        · cases h

theorem regionRun_panic : ∀ {sl : List Slot} {t : Tr Value} {cur last : AH} {es : List Ent} {T : Tr Value} {ch : List PanicEntry} {h1 : AH} {p : Slot} {l1 : List Slot},
    regionRun C run ops nt sl t cur last = some (.panic es T ch h1 p l1) →
    ∃ sl1 H L, sl = sl1 ++ p :: l1 ∧ RTrc C run ops nt t cur last sl1 es T H L ∧ entOf C run ops p T H L = some (.panic ch h1)
  | [], t, cur, last, es, T, ch, h1, p, l1, h => by cases h
  | s :: l, t, cur, last, es, T, ch, h1, p, l1, h => by
    simp only [regionRun] at h
    split at h
    · cases h
    · rename_i he
      cases h
      exact ⟨[], _, _, rfl, .nil _ _ _, he⟩
    · rename_i e he
      split at h
      · cases h
      · rename_i t' hp
        split at h
        · cases h
        · rename_i hr
          cases h
          obtain ⟨sl1, H, L, e1, e2, e3⟩ := regionRun_panic hr
          exact ⟨s :: sl1, H, L, by rw [e1]; rfl, .cons he hp e2, e3⟩
        · cases h

theorem RTrc.slots {sl : List Slot} {t : Tr Value} {cur last : AH} {es : List Ent} {T : Tr Value} {H L : AH} (h : RTrc C run ops nt t cur last sl es T H L) : es.map (·.s) = sl := by
  induction h with
  | nil => rfl
  | cons he _ _ ih => rw [List.map_cons, ih, (entOf_ent he).1]

theorem RTrc.each {sl : List Slot} {t : Tr Value} {cur last : AH} {es : List Ent} {T : Tr Value} {H L : AH} (h : RTrc C run ops nt t cur last sl es T H L) :
    ∀ e ∈ es, wantedF ops e.pt e.s.o = some e.want ∧ EntSem C run e := by
  induction h with
  | nil => intro e h; cases h
  | cons he _ _ ih =>
    intro e h
    cases h with
    | head =>
      obtain ⟨h1, h2, h3, h4, h5⟩ := entOf_ent he
      exact ⟨by rw [h1]; exact h4, h5⟩
    | tail _ h => exact ih e h

/-- The heaps, one behind another. -/
def Chain : AH → List Ent → AH → Prop
  | cur, [], F => cur = F
  | cur, e :: es, F => (e.s.c < 2 → Chain cur es F) ∧ (¬ e.s.c < 2 → e.pre = cur ∧ Chain e.post es F)

theorem RTrc.chain {sl : List Slot} {t : Tr Value} {cur last : AH} {es : List Ent} {T : Tr Value} {H L : AH} (h : RTrc C run ops nt t cur last sl es T H L) : Chain cur es H := by
  induction h with
  | nil => rfl
  | @cons s l t t' cur last e es T H L he _ _ ih =>
    obtain ⟨h1, h2, h3, h4, h5⟩ := entOf_ent he
    refine ⟨fun hc => ?_, fun _ => ⟨h3, ih⟩⟩
    have hp : e.post = e.pre := by
      rcases h5 with h | h | h | h
      · exact h.2.2.1
      · exact h.2.2
      · omega
      · exact absurd hc h.2.1
    rw [hp, h3] at ih
    exact ih

theorem RTrc.table {sl : List Slot} {t : Tr Value} {cur last : AH} {es : List Ent} {T : Tr Value} {H L : AH} (h : RTrc C run ops nt t cur last sl es T H L) {all : List Slot}
    (hp : sl.Pairwise fun e f => pairOk all e f = true) (hs : ∀ s ∈ sl, selfOk s = true) :
    (∀ d, (∀ s ∈ sl, s.o.dst ≠ some d) → T.get d = t.get d) ∧
    ∀ e ∈ es, (∀ d v, e.pt.get d = some v → d ∈ e.s.looks ∧ T.get d = some v) ∧ ∀ d, e.s.o.dst = some d → T.get d = some e.v ∧ d < nt := by
  induction h with
  | nil => exact ⟨fun _ _ => rfl, fun e h => by cases h⟩
  | @cons s l t t' cur last e es T H L he hput _ ih =>
    cases hp with
    | cons hp1 hp2 =>
    obtain ⟨i1, i2⟩ := ih hp2 fun x hx => hs x (.tail _ hx)
    obtain ⟨h1, h2, h3, h4, h5⟩ := entOf_ent he
    have hput' : (∀ d, s.o.dst ≠ some d → t'.get d = t.get d) ∧ ∀ d, s.o.dst = some d → t'.get d = some e.v ∧ d < nt := by
      cases hd : s.o.dst with
      | none =>
        rw [hd] at hput
        cases hput
        exact ⟨fun _ _ => rfl, fun d h => by cases h⟩
      | some d =>
        rw [hd] at hput
        obtain ⟨hb, hput⟩ := cond_some hput
        subst hput
        refine ⟨fun d2 hd2 => ?_, fun d2 hd2 => ?_⟩
        · rw [Tr.get_set, if_neg (fun e => hd2 (by rw [e]))]
        · cases hd2
          rw [Tr.get_set, if_pos rfl]
          exact ⟨rfl, nblt.1 hb⟩
    have hself := hs s (.head _)
    simp only [selfOk, Bool.and_eq_true] at hself
    refine ⟨fun d hd => ?_, fun x hx => ?_⟩
    · rw [i1 d fun s2 h2 => hd s2 (.tail _ h2), hput'.1 d (hd s (.head _))]
    · cases hx with
      | tail _ hx => exact i2 x hx
      | head =>
        rw [h1, h2]
        refine ⟨fun d v hv => ?_, fun d hd => ?_⟩
        · obtain ⟨m1, m2⟩ := pickT_get hv
          refine ⟨m1, ?_⟩
          rw [i1 d, hput'.1 d, m2]
          · intro hd
            have := hself.1.2
            rw [hd] at this
            simp only [Bool.not_eq_true'] at this
            rw [memN_iff.2 m1] at this
            cases this
          · intro s2 h2 hd
            have := hp1 s2 h2
            simp only [pairOk, hd, Bool.and_eq_true, Bool.not_eq_true'] at this
            rw [memN_iff.2 m1] at this
            exact absurd this.1.2.1 (by simp)
        · obtain ⟨m1, m2⟩ := hput'.2 d hd
          refine ⟨?_, m2⟩
          rw [i1 d, m1]
          intro s2 h2 hd2
          have := hp1 s2 h2
          simp only [pairOk, hd2, hd, Bool.and_eq_true, Bool.not_eq_true'] at this
          have h9 := this.1.2.2
          simp at h9
end
end Go.Ev
namespace Go.Ev
open Go

section
variable {C : Cfg} {low : Nat → Option Obj} {run : AS → Option (End × AH)} {ρ ρ0 : Emb} {h h0 : AH} {w w0 : World}

/-- A new block that nobody names. -/
theorem Sim.push (s : Sim C low ρ h w) {o : Obj} {w' : World} (e : w'.heap = w.heap.push o) : Sim C low ρ h w' := by
  have at' : ∀ b, b < w.heap.size → w'.heap[b]? = w.heap[b]? := fun b hb => by
    rw [e, Array.getElem?_push, if_neg (by omega)]
  have hlow : 0 < C.base → C.base ≤ w.heap.size := by
    intro hpos
    have := s.bound (C.base - 1) _ (s.glob _ (by omega))
    simp only at this; omega
  refine ⟨fun k o hk => ?_, s.inj, s.fresh, fun k g hk => ?_, s.sep, s.glob, fun b hb => ?_, s.nb⟩
  · obtain ⟨g, o', h1, h2, h3⟩ := s.live k o hk
    exact ⟨g, o', h1, by rw [at' _ (s.bound _ _ h1)]; exact h2, h3⟩
  · have := s.bound k g hk
    rw [e, Array.size_push]; omega
  · rw [at' b (by have := hlow (by omega); omega)]; exact s.low b hb

theorem Nx.push (n : Nx C low ρ0 h0 w0 ρ h w) {o : Obj} {w' : World} (e : w'.heap = w.heap.push o) (ev : w'.tape = w.tape ∧ w'.os = w.os ∧ w'.output = w.output) : Nx C low ρ0 h0 w0 ρ h w' :=
  ⟨n.le, n.sim.push e, by rw [e, Array.size_push]; have := n.size; omega, fun b hb hf => by
    obtain ⟨h1, h2⟩ := n.keep b hb hf
    refine ⟨?_, h2⟩
    have := n.size
    rw [e, Array.getElem?_push, if_neg (by omega)]; exact h1, ev.1.trans n.env.1, ev.2.1.trans n.env.2.1, ev.2.2.trans n.env.2.2⟩

/-- A block that nobody names gets the next name. -/
theorem Nx.adopt (n : Nx C low ρ0 h0 w0 ρ h w) (s0 : Sim C low ρ0 h0 w0) {b : Nat} {z : Value} {t : TypeId} (hz : plainV z = true) (hb0 : w0.heap.size ≤ b) (hb : b < w.heap.size) (ho : w.heap[b]? = some (.cells z.cells t))
    (hf : ¬ Foot C ρ h b) :
    Nx C low ρ0 h0 w0 (ρ.upd h.next ⟨b, 0, 0⟩) (h.new (.cells z.cells t false false)) w ∧ ρ.le (ρ.upd h.next ⟨b, 0, 0⟩) ∧
    ∀ b', Foot C (ρ.upd h.next ⟨b, 0, 0⟩) (h.new (.cells z.cells t false false)) b' → Foot C ρ h b' ∨ b' = b := by
  have s := n.sim
  have hn : ρ h.next = none := s.fresh _ (Nat.le_refl _)
  have hle := Emb.le_upd (g := ⟨b, 0, 0⟩) hn
  have hb2 : C.base ≤ b := by
    by_cases hpos : 0 < C.base
    · have := s0.bound (C.base - 1) _ (s0.glob _ (by omega))
      simp only at this; omega
    · omega
  have old : ∀ m x, (h.new (.cells z.cells t false false)).get m = some x → m ≠ h.next → h.get m = some x := by
    intro m x hm hne; rw [AH.get_new, if_neg hne] at hm; exact hm
  have ub : ∀ m g, m ≠ h.next → ρ.upd h.next ⟨b, 0, 0⟩ m = some g → ρ m = some g := fun m g hne hm => by rw [Emb.upd_ne hne] at hm; exact hm
  have foot : ∀ b', Foot C (ρ.upd h.next ⟨b, 0, 0⟩) (h.new (.cells z.cells t false false)) b' → Foot C ρ h b' ∨ b' = b := by
    rintro b' ⟨m, x, g, h1, h2, h3, h4⟩
    by_cases hm : m = h.next
    · subst hm
      rw [Emb.upd_self] at h3; cases h3
      exact .inr h4.symm
    · exact .inl ⟨m, x, g, h1, old _ _ h2 hm, ub _ _ hm h3, h4⟩
  -- nothing that lives lies there
  have off : ∀ m x g, h.get m = some x → ρ m = some g → g.b ≠ b := by
    intro m x g hm hg e
    by_cases hmb : C.base ≤ m
    · exact hf ⟨m, x, g, hmb, hm, hg, e⟩
    · have := s.glob m (by omega)
      rw [hg] at this
      have : g.b = m := by rw [Option.some.inj this]
      omega
  have hself : (h.new (.cells z.cells t false false)).get h.next = some (.cells z.cells t false false) := by rw [AH.get_new]; exact if_pos rfl
  have hpl := plainA_cells hz
  refine ⟨⟨Emb.le_trans n.le hle, ⟨?_, ?_, ?_, ?_, ?_, ?_, s.low, ?_⟩, n.size, ?_, n.env⟩, hle, foot⟩
  · intro m x hm
    by_cases hmk : m = h.next
    · subst hmk
      rw [hself] at hm; cases hm
      refine ⟨_, _, Emb.upd_self _ _ _, ho, ?_⟩
      refine .cells (fun _ => ⟨Nat.le_refl _, fun i _ => by simp⟩) (fun _ => ⟨rfl, rfl⟩) (fun h => by cases h) fun i v v' h1 h2 => ?_
      simp only [Nat.zero_add] at h2
      exact (AR.refl_plain hpl).2 i v v' h1 h2
    · obtain ⟨g2, o2, h1, h2, h3⟩ := s.live m x (old m x hm hmk)
      exact ⟨g2, o2, hle _ _ h1, h2, h3.mono hle⟩
  · intro m m' x x' g1 g2 h1 h2 h3 h4 h5
    by_cases hm : m = h.next <;> by_cases hm' : m' = h.next
    · rw [hm, hm']
    · subst hm; rw [Emb.upd_self] at h3; cases h3
      exact absurd h5.symm (off m' x' g2 (old _ _ h2 hm') (ub m' g2 hm' h4))
    · subst hm'; rw [Emb.upd_self] at h4; cases h4
      exact absurd h5 (off m x g1 (old _ _ h1 hm) (ub m g1 hm h3))
    · exact s.inj m m' x x' g1 g2 (old _ _ h1 hm) (old _ _ h2 hm') (ub _ _ hm h3) (ub _ _ hm' h4) h5
  · intro m hm
    have hk' : h.next + 1 ≤ m := hm
    rw [Emb.upd_ne (by omega)]; exact s.fresh m (by omega)
  · intro m g1 hm
    by_cases hmk : m = h.next
    · subst hmk; rw [Emb.upd_self] at hm; cases hm; exact hb
    · exact s.bound m g1 (ub m g1 hmk hm)
  · intro m g1 hmb hm
    by_cases hmk : m = h.next
    · subst hmk; rw [Emb.upd_self] at hm; cases hm; exact hb2
    · exact s.sep m g1 hmb (ub m g1 hmk hm)
  · intro m hm
    have hnb := s.nb
    rw [Emb.upd_ne (by omega)]; exact s.glob m hm
  · show C.base ≤ h.next + 1
    have hnb := s.nb
    omega
  · intro b' hb' hf'
    obtain ⟨e1, e2⟩ := n.keep b' hb' hf'
    refine ⟨e1, fun hx => ?_⟩
    rcases foot b' hx with hx | hx
    · exact e2 hx
    · omega

/-- A new variable that was made already, at the block b. -/
structure Mk (C : Cfg) (ρ : Emb) (H : AH) (w0 w : World) (e : Ent) (b : Nat) : Prop where
  c : e.s.c = 3
  want : e.want = true
  old : w0.heap.size ≤ b
  lt : b < w.heap.size
  zero : ∃ t z, e.s.o.op = .alloc t ∧ zeroOf C.P t = some z ∧ w.heap[b]? = some (.cells z.cells t)
  foot : ¬ Foot C ρ H b

abbrev Us := List (Ent × Option Nat)

theorem zero_plain {P : Program} {t : TypeId} {z : Value} (hz : zeroOf P t = some z) : plainV z = true := by
  obtain ⟨_, _, _, h⟩ := zeroOf_some hz
  exact h

theorem aop_alloc {ev : Ev} {o : Oper} {t : TypeId} {z : Value} (ho : o.op = .alloc t) (hz : zeroOf C.P t = some z) : aop C ev h o = some (.val (ptr h.next) (h.new (.cells z.cells t false false))) := by
  unfold aop
  rw [ho]
  simp [hz, aborn]

theorem name_all (s0 : Sim C low ρ0 h0 w0) : ∀ (A : Us) (rest : List Ent) (F : AH) (ρ : Emb) (H : AH), Nx C low ρ0 h0 w0 ρ H w → Chain H (A.map (·.1) ++ rest) F →
    (∀ u ∈ A, EntSem C run u.1) → (∀ u ∈ A, u.2 = none → u.1.s.c < 2) → (∀ u ∈ A, ∀ b, u.2 = some b → Mk C ρ H w0 w u.1 b) →
    A.Pairwise (fun u v => ∀ b b', u.2 = some b → v.2 = some b' → b ≠ b') →
    ∃ ρ1 H1, ρ.le ρ1 ∧ Nx C low ρ0 h0 w0 ρ1 H1 w ∧ Chain H1 rest F ∧ (∀ b, Foot C ρ1 H1 b → Foot C ρ H b ∨ ∃ u ∈ A, u.2 = some b) ∧
      ∀ u ∈ A, ∀ b, u.2 = some b → VR ρ1 u.1.v (ptr b)
  | [], rest, F, ρ, H, n, hc, _, _, _, _ => ⟨ρ, H, ρ.le_refl, n, hc, fun b hb => .inl hb, fun u hu => by cases hu⟩
  | (e, none) :: A, rest, F, ρ, H, n, hc, hs, hr, hm, hd => by
    have hlt : e.s.c < 2 := hr _ (.head _) rfl
    cases hd with
    | cons _ hd2 =>
    obtain ⟨ρ1, H1, e1, e2, e3, e4, e5⟩ := name_all s0 A rest F ρ H n (hc.1 hlt) (fun u hu => hs u (.tail _ hu)) (fun u hu => hr u (.tail _ hu)) (fun u hu => hm u (.tail _ hu)) hd2
    refine ⟨ρ1, H1, e1, e2, e3, fun b hb => ?_, fun u hu b hb => ?_⟩
    · rcases e4 b hb with h | ⟨u, hu, hb⟩
      · exact .inl h
      · exact .inr ⟨u, .tail _ hu, hb⟩
    · cases hu with
      | head => cases hb
      | tail _ hu => exact e5 u hu b hb
  | (e, some b) :: A, rest, F, ρ, H, n, hc, hs, hr, hm, hd => by
    have mk := hm _ (.head _) b rfl
    obtain ⟨t, z, ho, hz, hw⟩ := mk.zero
    have hc3 : ¬ e.s.c < 2 := by have := mk.c; simp only at this; omega
    obtain ⟨hpre, hch⟩ := hc.2 hc3
    have hsem : e.v = ptr H.next ∧ e.post = H.new (.cells z.cells t false false) := by
      have hx : aop C (evOf C e.pt) e.pre e.s.o = some (.val e.v e.post) := by
        have hw := mk.want
        have hc := mk.c
        simp only at hw hc
        rcases hs _ (.head _) with h | h | h | h
        · simp only at h; rw [h.1] at hw; cases hw
        · simp only at h; omega
        · exact h.2.2
        · exact absurd hc h.2.2.1
      rw [aop_alloc ho hz, hpre] at hx
      simp only [Option.some.injEq, OpR.val.injEq] at hx
      exact ⟨hx.1.symm, hx.2.symm⟩
    obtain ⟨n1, l1, f1⟩ := n.adopt s0 (zero_plain hz) mk.old mk.lt hw mk.foot
    rw [hsem.2] at hch
    cases hd with
    | cons hd1 hd2 =>
    have hm1 : ∀ u ∈ A, ∀ b', u.2 = some b' → Mk C (ρ.upd H.next ⟨b, 0, 0⟩) (H.new (.cells z.cells t false false)) w0 w u.1 b' := by
      intro u hu b' hb'
      have mu := hm u (.tail _ hu) b' hb'
      refine ⟨mu.c, mu.want, mu.old, mu.lt, mu.zero, fun hf => ?_⟩
      rcases f1 b' hf with hf | hf
      · exact mu.foot hf
      · exact hd1 u hu b b' rfl hb' hf.symm
    obtain ⟨ρ1, H1, e1, e2, e3, e4, e5⟩ := name_all s0 A rest F _ _ n1 hch (fun u hu => hs u (.tail _ hu)) (fun u hu => hr u (.tail _ hu)) hm1 hd2
    refine ⟨ρ1, H1, Emb.le_trans l1 e1, e2, e3, fun b' hb' => ?_, fun u hu b' hb' => ?_⟩
    · rcases e4 b' hb' with h | ⟨u, hu, hb⟩
      · rcases f1 b' h with h | h
        · exact .inl h
        · exact .inr ⟨_, .head _, by rw [h]⟩
      · exact .inr ⟨u, .tail _ hu, hb⟩
    · cases hu with
      | head =>
        cases hb'
        simp only
        rw [hsem.1]
        exact (ptr_upd _ _ _).mono e1
      | tail _ hu => exact e5 u hu b' hb'
end
end Go.Ev
namespace Go.Ev
open Go

theorem pairOk_spec {all : List Slot} {e f : Slot} (h : pairOk all e f = true) :
    (∀ d, e.o.dst = some d → d ∈ f.looks → f.b.testBit e.i = true ∧ (e.c = 3 → f.c = 2 ∨ ∃ g ∈ all, g.c = 2 ∧ e.i < g.i ∧ f.b.testBit g.i = true)) ∧
    (∀ d, f.o.dst = some d → d ∉ e.looks ∧ e.o.dst ≠ some d) ∧
    (f.c = 2 → ¬ e.c < 2 → f.b.testBit e.i = true) := by
  simp only [pairOk, Bool.and_eq_true] at h
  obtain ⟨⟨h1, h2⟩, h3⟩ := h
  refine ⟨fun d hd hm => ?_, fun d hd => ?_, fun hf he => ?_⟩
  · rw [hd] at h1
    simp only [memN_iff.2 hm, Bool.not_true, Bool.false_or, Bool.and_eq_true, Bool.or_eq_true, Bool.not_eq_true', List.any_eq_true] at h1
    refine ⟨h1.1, fun hc => ?_⟩
    rcases h1.2 with (h | h) | ⟨g, hg, h⟩
    · rw [hc] at h; cases h
    · exact .inl (nbeq.1 h)
    · simp only [Bool.and_eq_true, nbeq, nblt] at h
      exact .inr ⟨g, hg, h.1.1, h.1.2, h.2⟩
  · rw [hd] at h2
    simp only [Bool.and_eq_true, Bool.not_eq_true'] at h2
    refine ⟨fun hm => (by rw [memN_iff.2 hm] at h2; exact absurd h2.1 (by simp)), fun he => ?_⟩
    rw [he] at h2
    have := h2.2
    simp at this
  · simp only [hf, Bool.or_eq_true, Bool.not_eq_true', nblt] at h3
    rcases h3 with (h | h) | h
    · cases h
    · exact absurd h he
    · exact h

section
variable {C : Cfg} {low : Nat → Option Obj} {run : AS → Option (End × AH)} {ops : Array Oper} {nt m : Nat} {all : List Slot} {tot : List Ent} {T : Tr Value} {h0 F : AH} {ρ0 : Emb} {w0 : World}

/-- What is so in any order. -/
structure RF (C : Cfg) (run : AS → Option (End × AH)) (ops : Array Oper) (nt m : Nat) (all : List Slot) (tot : List Ent) (T : Tr Value) : Prop where
  hall : all = slotsOf C.P ops (Region.before ops) ops.toList 0
  apw : all.Pairwise fun e f => pairOk all e f = true
  aself : ∀ s ∈ all, selfOk s = true
  hm : m ≤ ops.size
  tots : tot.map (·.s) = all.take m
  each : ∀ e ∈ tot, wantedF ops e.pt e.s.o = some e.want ∧ EntSem C run e
  tab : ∀ e ∈ tot, (∀ d v, e.pt.get d = some v → d ∈ e.s.looks ∧ T.get d = some v) ∧ ∀ d, e.s.o.dst = some d → T.get d = some e.v ∧ d < nt
  later : ∀ s ∈ all, m < s.i → s.b.testBit m = true

variable (rf : RF C run ops nt m all tot T)
include rf

theorem RF.at (j : Nat) : all[j]? = (ops[j]?).map fun o => { i := j, o, c := clsOf C.P o.op, b := (Region.before ops).getD j 0, looks := looksOf ops o } := by
  rw [rf.hall, slotsOf_get]
  simp

theorem RF.slot {s : Slot} (hs : s ∈ all) : ops[s.i]? = some s.o ∧ s.b = (Region.before ops).getD s.i 0 ∧ s.looks = looksOf ops s.o ∧ s.c = clsOf C.P s.o.op ∧ all[s.i]? = some s := by
  obtain ⟨j, hj⟩ := List.getElem?_of_mem hs
  have h := rf.at j
  rw [hj] at h
  cases ho : ops[j]? with
  | none => rw [ho] at h; cases h
  | some o =>
    rw [ho] at h
    simp only [Option.map_some, Option.some.injEq] at h
    subst h
    exact ⟨ho, rfl, rfl, rfl, hj⟩

theorem RF.pair {e f : Slot} (he : e ∈ all) (hf : f ∈ all) (h : e.i < f.i) : pairOk all e f = true := by
  have h1 := (rf.slot he).2.2.2.2
  have h2 := (rf.slot hf).2.2.2.2
  obtain ⟨l1, e1⟩ := List.getElem?_eq_some_iff.1 h1
  obtain ⟨l2, e2⟩ := List.getElem?_eq_some_iff.1 h2
  have := List.pairwise_iff_getElem.1 rf.apw e.i f.i l1 l2 h
  rw [e1, e2] at this
  exact this

theorem RF.same {e f : Slot} (he : e ∈ all) (hf : f ∈ all) (h : e.i = f.i) : e = f := by
  have h1 := (rf.slot he).2.2.2.2
  have h2 := (rf.slot hf).2.2.2.2
  rw [h, h2] at h1
  exact (Option.some.inj h1).symm

theorem RF.ent {e : Ent} (he : e ∈ tot) : e.s ∈ all ∧ e.s.i < m := by
  have h : e.s ∈ all.take m := by rw [← rf.tots]; exact List.mem_map_of_mem he
  obtain ⟨j, hj⟩ := List.getElem?_of_mem h
  have hjm : j < m := by
    have := (List.getElem?_eq_some_iff.1 hj).1
    rw [List.length_take] at this; omega
  rw [List.getElem?_take_of_lt hjm] at hj
  have h2 := rf.at j
  rw [hj] at h2
  cases ho : ops[j]? with
  | none => rw [ho] at h2; cases h2
  | some o =>
    rw [ho] at h2
    simp only [Option.map_some, Option.some.injEq] at h2
    refine ⟨List.mem_of_getElem? hj, ?_⟩
    rw [h2]; exact hjm

theorem RF.ent_at {i : Nat} (hi : i < m) : ∃ e ∈ tot, e.s.i = i := by
  have hlt : i < ops.size := Nat.lt_of_lt_of_le hi rf.hm
  have h1 := rf.at i
  rw [Array.getElem?_eq_getElem hlt, Option.map_some] at h1
  have h2 : (all.take m)[i]? = _ := (List.getElem?_take_of_lt hi).trans h1
  rw [← rf.tots, List.getElem?_map] at h2
  cases he : tot[i]? with
  | none => rw [he] at h2; cases h2
  | some e =>
    rw [he] at h2
    simp only [Option.map_some, Option.some.injEq] at h2
    exact ⟨e, List.mem_of_getElem? he, by rw [h2]⟩

theorem RF.incr : tot.Pairwise fun e f => e.s.i < f.s.i := by
  have h : (tot.map (·.s)).Pairwise fun e f => e.i < f.i := by
    rw [rf.tots, List.pairwise_iff_getElem]
    intro i j hi hj hij
    have key : ∀ (k : Nat) (hk : k < (all.take m).length), ((all.take m)[k]).i = k := by
      intro k hk
      have hkm : k < m := by rw [List.length_take] at hk; omega
      have h1 : (all.take m)[k]? = some (all.take m)[k] := List.getElem?_eq_getElem hk
      rw [List.getElem?_take_of_lt hkm, rf.at k] at h1
      cases ho : ops[k]? with
      | none => rw [ho] at h1; cases h1
      | some o =>
        rw [ho] at h1
        simp only [Option.map_some, Option.some.injEq] at h1
        rw [← h1]
    rw [key i hi, key j hj]; exact hij
  exact (List.pairwise_map (f := fun e : Ent => e.s) (R := fun e f : Slot => e.i < f.i)).1 h
omit rf

/-! ## What is listed -/
structure RL (ops : Array Oper) (m : Nat) (tot : List Ent) (listed : Array Bool) (us : Us) : Prop where
  size : listed.size = ops.size
  sub : (us.map (·.1)).Sublist tot
  ul : ∀ u ∈ us, u.2 = none → listed.getD u.1.s.i true = false
  lu : ∀ i, i < m → listed.getD i true = false → ∃ u ∈ us, u.2 = none ∧ u.1.s.i = i
  rest : ∀ i, m ≤ i → i < ops.size → listed.getD i true = false
  closed : ∀ i j, listed.getD i false = true → ((Region.before ops).getD i 0).testBit j = true → listed.getD j false = true

theorem not_listed {listed : Array Bool} {i : Nat} (h : listed.getD i true = false) : listed.getD i false = false := by
  rw [Array.getD_eq_getD_getElem?] at h ⊢
  cases hx : listed[i]? with
  | none => rfl
  | some b => rw [hx] at h; exact h

theorem listed_lt {listed : Array Bool} {i : Nat} (h : listed.getD i true = false) : i < listed.size := by
  rw [Array.getD_eq_getD_getElem?] at h
  cases hx : listed[i]? with
  | none => rw [hx] at h; cases h
  | some b => exact (Array.getElem?_eq_some_iff.1 hx).1

/-- Whoever is ready has its ancestors behind it. -/
theorem RL.anc {listed : Array Bool} {us : Us} (rl : RL ops m tot listed us) {i : Nat} (hi : i ∈ Region.ready .any ops listed) {j : Nat} (hj : ((Region.before ops).getD i 0).testBit j = true) :
    listed.getD j false = true := by
  obtain ⟨_, o, ho, hall⟩ := mem_ready.1 hi
  obtain ⟨o', e, ho', he, hb, h⟩ := before_bit hj
  rw [ho] at ho'
  cases ho'
  have hl := hall e he hb
  rcases h with h | h
  · rw [← h]; exact hl
  · exact rl.closed _ _ hl h

theorem RL.next {listed : Array Bool} {us us1 : Us} (rl : RL ops m tot listed us) {i : Nat} (hi : i ∈ Region.ready .any ops listed) (him : i < m) (hsub : (us1.map (·.1)).Sublist tot)
    (h1 : ∀ v ∈ us1, v.2 = none → v ∈ us ∧ v.1.s.i ≠ i) (h2 : ∀ v ∈ us, v.2 = none → v.1.s.i ≠ i → v ∈ us1) : RL ops m tot (listed.setIfInBounds i true) us1 := by
  have hun := (mem_ready.1 hi).1
  have hlt := listed_lt hun
  refine ⟨by simpa using rl.size, hsub, fun u hu hn => ?_, fun j hj hl => ?_, fun j hj hjn => ?_, fun a b ha hb => ?_⟩
  · obtain ⟨m1, m2⟩ := h1 u hu hn
    rw [getD_set_ne true (Ne.symm m2)]; exact rl.ul u m1 hn
  · by_cases hij : i = j
    · subst hij
      simp [hlt] at hl
    · rw [getD_set_ne true hij] at hl
      obtain ⟨u, m1, m2, m3⟩ := rl.lu j hj hl
      exact ⟨u, h2 u m1 m2 (by rw [m3]; exact Ne.symm hij), m2, m3⟩
  · rw [getD_set_ne true (by omega)]; exact rl.rest j hj hjn
  · refine getD_set_true ?_
    by_cases hai : a = i
    · subst hai; exact rl.anc hi hb
    · rw [getD_set_ne false (Ne.symm hai)] at ha; exact rl.closed a b ha hb

/-- Somebody is ready, where not all are listed. -/
theorem RL.some_ready {listed : Array Bool} {us : Us} (rl : RL ops m tot listed us) (rf : RF C run ops nt m all tot T) {i : Nat} (hi : i < ops.size) (hl : listed.getD i true = false) : Region.ready .any ops listed ≠ [] := by
  induction i using Nat.strongRecOn with
  | _ i ih =>
    by_cases h : ∃ j, j < i ∧ listed.getD j true = false
    · obtain ⟨j, h1, h2⟩ := h
      exact ih j h1 (by omega) h2
    · intro hnil
      have hmem : i ∈ Region.ready .any ops listed := by
        refine mem_ready.2 ⟨hl, ops[i], Array.getElem?_eq_getElem hi, fun e he hb => ?_⟩
        have hs := rf.at i
        rw [Array.getElem?_eq_getElem hi, Option.map_some] at hs
        have hself := rf.aself _ (List.mem_of_getElem? hs)
        simp only [selfOk, Bool.and_eq_true, List.all_eq_true] at hself
        have := hself.1.1 e (by simpa using he)
        simp only [hb, Bool.not_true, Bool.false_or, nblt] at this
        have hx : ¬ listed.getD e.on true = false := fun hx => h ⟨e.on, this, hx⟩
        have hsz : e.on < listed.size := by rw [rl.size]; omega
        rw [Array.getD_eq_getD_getElem?, Array.getElem?_eq_getElem hsz] at hx ⊢
        simpa using hx
      rw [hnil] at hmem
      cases hmem

/-! ## The invariant -/
structure RI (C : Cfg) (low : Nat → Option Obj) (ops : Array Oper) (nt m : Nat) (all : List Slot) (tot : List Ent) (T : Tr Value) (h0 F : AH) (ρ0 : Emb) (w0 : World)
    (listed : Array Bool) (us : Us) (tmps : Array Value) (ρ : Emb) (H : AH) (w : World) : Prop where
  rl : RL ops m tot listed us
  mkd : ∀ u ∈ us, ∀ b, u.2 = some b → Mk C ρ H w0 w u.1 b
  mt : ∀ u ∈ us, ∀ b, u.2 = some b → ∀ d, u.1.s.o.dst = some d → tmps[d]? = some (ptr b)
  mg : ∀ u ∈ us, ∀ b, u.2 = some b → ∀ g ∈ all, g.c = 2 → u.1.s.i < g.i → listed.getD g.i false = false
  dis : us.Pairwise fun u v => ∀ b b', u.2 = some b → v.2 = some b' → b ≠ b'
  nt : tmps.size = nt
  tm : ∀ d v, T.get d = some v → (∀ u ∈ us, u.1.s.o.dst ≠ some d) → ∃ v', tmps[d]? = some v' ∧ VR ρ v v'
  chain : Chain H (us.map (·.1)) F
  stab : ∀ u ∈ us, u.1.s.c < 2 → stab C u.1 H (effsOf (us.map (·.1))) = true
  nx : Nx C low ρ0 h0 w0 ρ H w

variable {listed : Array Bool} {us : Us} {tmps : Array Value} {ρ : Emb} {H : AH} {w : World}

theorem RL.mem (rl : RL ops m tot listed us) {u : Ent × Option Nat} (hu : u ∈ us) : u.1 ∈ tot := rl.sub.subset (List.mem_map_of_mem hu)
theorem RL.incr (rl : RL ops m tot listed us) (rf : RF C run ops nt m all tot T) : us.Pairwise fun u v => u.1.s.i < v.1.s.i := (List.pairwise_map (f := fun u : Ent × Option Nat => u.1) (R := fun e f : Ent => e.s.i < f.s.i)).1 (rf.incr.sublist rl.sub)

/-- What such a slot looks at. -/
theorem look_slot (rf : RF C run ops nt m all tot T) (ri : RI C low ops nt m all tot T h0 F ρ0 w0 listed us tmps ρ H w) {f : Slot} (hf : f ∈ all) (anc : ∀ j, f.b.testBit j = true → listed.getD j false = true)
    {d : Nat} (hd : d ∈ f.looks) {v : Value} (hv : T.get d = some v) :
    (∃ v', tmps[d]? = some v' ∧ VR ρ v v') ∨ (f.c = 2 ∧ ∃ x ∈ us, ∃ b, x.2 = some b ∧ x.1.s.i < f.i ∧ x.1.s.o.dst = some d) := by
  by_cases hx : ∀ x ∈ us, x.1.s.o.dst ≠ some d
  · exact .inl (ri.tm d v hv hx)
  · have ⟨x, hxu, hxd⟩ : ∃ x, x ∈ us ∧ x.1.s.o.dst = some d := by
      apply Classical.byContradiction
      intro hn
      exact hx fun x hxu e => hn ⟨x, hxu, e⟩
    have hxa := (rf.ent (ri.rl.mem hxu)).1
    rcases Nat.lt_trichotomy x.1.s.i f.i with hlt | heq | hgt
    · obtain ⟨p1, _, _⟩ := pairOk_spec (rf.pair hxa hf hlt)
      obtain ⟨q1, q2⟩ := p1 d hxd hd
      have hl := anc _ q1
      cases hx2 : x.2 with
      | none =>
        rw [not_listed (ri.rl.ul x hxu hx2)] at hl; cases hl
      | some b =>
        have mk := ri.mkd x hxu b hx2
        rcases q2 mk.c with hc | ⟨g, hg, g1, g2, g3⟩
        · exact .inr ⟨hc, x, hxu, b, hx2, hlt, hxd⟩
        · have := anc _ g3
          rw [ri.mg x hxu b hx2 g hg g1 g2] at this; cases this
    · have := rf.same hxa hf heq
      have hs := rf.aself f hf
      simp only [selfOk, Bool.and_eq_true] at hs
      have h2 := hs.1.2
      rw [← this, hxd] at h2
      simp only [Bool.not_eq_true'] at h2
      rw [this, memN_iff.2 hd] at h2; cases h2
    · obtain ⟨_, p2, _⟩ := pairOk_spec (rf.pair hf hxa hgt)
      exact absurd hd (p2 d hxd).1
end
end Go.Ev
