/-
  The evaluator's regions and runs are sound; runs in legs; calls told from a table. No condition.
-/
import Derived.Test.YtecohkoekifeiaaGreatDoorEd
import Derived.Test.YtecohkoekifeiaaGreatDoorEa
set_option linter.all false
namespace Go.Ev
open Go

/-- The frame, in the midst of a region. -/
def rfr (fr : Frame) (ops : Array Oper) (k : List Item) (tmps : Array Value) (L : List Nat) : Frame := { fr with tmps, todo := .inRegion ops L :: k }

theorem rfr_finish {fr : Frame} {ops : Array Oper} {k : List Item} {tmps : Array Value} {i : Nat} {L : List Nat} {o : Oper} (ho : ops[i]? = some o) (v : Value) :
    (rfr fr ops k tmps (i :: L)).finish v = rfr fr ops k (putA tmps o.dst v) L := by
  simp only [Frame.finish, rfr, ho, Option.bind_some]
  cases o.dst <;> rfl

def cnt (us : Us) : Nat := (us.filter (·.2.isNone)).length

theorem cnt_mid (A B : Us) (e : Ent) : cnt (A ++ (e, none) :: B) = cnt (A ++ B) + 1 := by
  simp [cnt]; omega
theorem cnt_mark (A B : Us) (e : Ent) (b : Nat) : cnt (A ++ (e, some b) :: B) = cnt (A ++ B) := by
  simp [cnt]
theorem cnt_filter (A B : Us) : cnt (A.filter (·.2.isNone) ++ B) = cnt (A ++ B) := by
  simp [cnt]

theorem effs_app (A B : List Ent) : effsOf (A ++ B) = effsOf A ++ effsOf B := by simp [effsOf]
theorem effs_cons_lt {e : Ent} (h : e.s.c < 2) (B : List Ent) : effsOf (e :: B) = effsOf B := by
  have : Nat.beq e.s.c 2 = false := by
    cases hx : Nat.beq e.s.c 2 with
    | false => rfl
    | true => have := nbeq.1 hx; omega
  simp [effsOf, this]
theorem effs_cons_3 {e : Ent} (h : e.s.c = 3) (B : List Ent) : effsOf (e :: B) = effsOf B := by
  simp [effsOf, h]
theorem effs_cons_2 {e : Ent} (h : e.s.c = 2) (B : List Ent) : effsOf (e :: B) = e :: effsOf B := by
  simp [effsOf, h]
theorem effs_none {A : List Ent} (h : ∀ x ∈ A, x.s.c ≠ 2) : effsOf A = [] := by
  unfold effsOf
  rw [List.filter_eq_nil_iff]
  intro x hx hb
  exact h x hx (nbeq.1 hb)

theorem chain_skip {F : AH} {e : Ent} (h : e.s.c < 2) : ∀ {A B : List Ent} {H : AH}, Chain H (A ++ e :: B) F → Chain H (A ++ B) F
  | [], B, H, hc => hc.1 h
  | a :: A, B, H, hc => ⟨fun ha => chain_skip h (hc.1 ha), fun ha => ⟨(hc.2 ha).1, chain_skip h (hc.2 ha).2⟩⟩
theorem chain_add {F : AH} {A : List Ent} (hA : ∀ a ∈ A, a.s.c < 2) {B : List Ent} {H : AH} (h : Chain H B F) : Chain H (A ++ B) F := by
  induction A with
  | nil => exact h
  | cons a A ih =>
    have ha := hA a (.head _)
    exact ⟨fun _ => ih fun x hx => hA x (.tail _ hx), fun hn => absurd ha hn⟩

theorem putA_get {a : Array Value} {dst : Option Tmp} {v : Value} {d : Nat} (h : dst ≠ some d) : (putA a dst v)[d]? = a[d]? := by
  cases dst with
  | none => rfl
  | some e => simp only [putA]; rw [Array.getElem?_setIfInBounds_ne (fun x => h (by rw [x]))]
theorem putA_self {a : Array Value} {v : Value} {d : Nat} (h : d < a.size) : (putA a (some d) v)[d]? = some v := by simp [putA, h]
theorem putA_size (a : Array Value) (dst : Option Tmp) (v : Value) : (putA a dst v).size = a.size := by cases dst <;> simp [putA]

section
variable {C : Cfg} {low : Nat → Option Obj} {run : AS → Option (End × AH)} {ops : Array Oper} {nt m : Nat} {all : List Slot} {tot : List Ent} {T : Tr Value} {h0 F : AH} {ρ0 : Emb} {w0 : World}
variable {listed : Array Bool} {us : Us} {tmps : Array Value} {ρ : Emb} {H : AH} {w : World} {fr : Frame} {k' : List Item}

/-- The entry that is carried out now. -/
structure Now (C : Cfg) (ops : Array Oper) (all : List Slot) (listed : Array Bool) (A B : Us) (e : Ent) (i : Nat) : Prop where
  idx : e.s.i = i
  op : ops[i]? = some e.s.o
  cls : e.s.c = clsOf C.P e.s.o.op
  mem : e.s ∈ all
  anc : ∀ j, e.s.b.testBit j = true → listed.getD j false = true
  ha : ∀ x ∈ A, x.1.s.i < i ∧ pairOk all x.1.s e.s = true
  hb : ∀ x ∈ B, i < x.1.s.i ∧ pairOk all e.s x.1.s = true

theorem now_of (rf : RF C run ops nt m all tot T) (ri : RI C low ops nt m all tot T h0 F ρ0 w0 listed us tmps ρ H w) {i : Nat} (hi : i ∈ Region.ready .any ops listed) (him : i < m) :
    ∃ A B e, us = A ++ (e, none) :: B ∧ Now C ops all listed A B e i ∧ e ∈ tot := by
  obtain ⟨u, hu, hn, hui⟩ := ri.rl.lu i him (mem_ready.1 hi).1
  obtain ⟨e, o⟩ := u
  simp only at hn hui
  subst hn
  obtain ⟨A, B, rfl⟩ := List.append_of_mem hu
  have het := ri.rl.mem hu
  obtain ⟨hea, _⟩ := rf.ent het
  obtain ⟨s1, s2, s3, s4, _⟩ := rf.slot hea
  have hinc := ri.rl.incr rf
  rw [List.pairwise_append] at hinc
  obtain ⟨_, hB, hAB⟩ := hinc
  cases hB with
  | cons hB1 _ =>
  refine ⟨A, B, e, rfl, ⟨hui, by rw [← hui]; exact s1, s4, hea, fun j hj => ri.rl.anc hi (by rw [← hui, ← s2]; exact hj), fun x hx => ?_, fun x hx => ?_⟩, het⟩
  · have hlt := hAB x hx (e, none) (.head _)
    simp only at hlt
    exact ⟨by rw [← hui]; exact hlt, rf.pair (rf.ent (ri.rl.mem (List.mem_append_left _ hx))).1 hea hlt⟩
  · have hlt := hB1 x hx
    simp only at hlt
    exact ⟨by rw [← hui]; exact hlt, rf.pair hea (rf.ent (ri.rl.mem (List.mem_append_right _ (.tail _ hx)))).1 hlt⟩

theorem sub_drop {A B : Us} {e : Ent × Option Nat} (h : ((A ++ e :: B).map (·.1)).Sublist tot) : ((A ++ B).map (·.1)).Sublist tot := by
  refine List.Sublist.trans (List.Sublist.map _ ?_) h
  exact List.Sublist.append (List.Sublist.refl _) (List.sublist_cons_self _ _)
theorem sub_filter {A B : Us} {e : Ent × Option Nat} (h : ((A ++ e :: B).map (·.1)).Sublist tot) : ((A.filter (·.2.isNone) ++ B).map (·.1)).Sublist tot := by
  refine List.Sublist.trans (List.Sublist.map _ ?_) h
  exact List.Sublist.append List.filter_sublist (List.sublist_cons_self _ _)

/-- An entry that reads, carried out or not, is taken out. -/
theorem ri_drop (rf : RF C run ops nt m all tot T) {A B : Us} {e : Ent} (ri : RI C low ops nt m all tot T h0 F ρ0 w0 listed (A ++ (e, none) :: B) tmps ρ H w) {i : Nat} (hi : i ∈ Region.ready .any ops listed) (him : i < m)
    (nw : Now C ops all listed A B e i) (het : e ∈ tot) (hc : e.s.c < 2) {ρ1 : Emb} {w1 : World} {v' : Value} (nx : Nx C low ρ H w ρ1 H w1) (hv : ∀ d, e.s.o.dst = some d → VR ρ1 e.v v') :
    RI C low ops nt m all tot T h0 F ρ0 w0 (listed.setIfInBounds i true) (A ++ B) (putA tmps e.s.o.dst v') ρ1 H w1 := by
  have hin : ∀ x ∈ A ++ B, x ∈ A ++ (e, none) :: B := fun x hx => by
    rcases List.mem_append.1 hx with h | h
    · exact List.mem_append_left _ h
    · exact List.mem_append_right _ (.tail _ h)
  have hne : ∀ x ∈ A ++ B, x.1.s.i ≠ i := fun x hx => by
    rcases List.mem_append.1 hx with h | h
    · have := (nw.ha x h).1; omega
    · have := (nw.hb x h).1; omega
  have hdst : ∀ x ∈ A ++ B, ∀ d, x.1.s.o.dst = some d → e.s.o.dst ≠ some d := fun x hx d hd he => by
    rcases List.mem_append.1 hx with h | h
    · exact ((pairOk_spec (nw.ha x h).2).2.1 d he).2 hd
    · exact ((pairOk_spec (nw.hb x h).2).2.1 d hd).2 he
  have hsub := ri.rl.sub
  refine ⟨ri.rl.next hi him (sub_drop hsub) (fun v hv hn => ⟨hin v hv, hne v hv⟩) (fun v hv hn hni => ?_), fun x hx b hb => ?_, fun x hx b hb d hd => ?_, fun x hx b hb g hg hg2 hgi => ?_, ?_, ?_, fun d v hT hno => ?_, ?_, fun x hx hxc => ?_, ri.nx.trans nx⟩
  · rcases List.mem_append.1 hv with h | h
    · exact List.mem_append_left _ h
    · cases h with
      | head => exact absurd nw.idx hni
      | tail _ h => exact List.mem_append_right _ h
  · have mk := ri.mkd x (hin x hx) b hb
    obtain ⟨k1, k2⟩ := nx.keep b mk.lt mk.foot
    obtain ⟨t, z, z1, z2, z3⟩ := mk.zero
    exact ⟨mk.c, mk.want, mk.old, Nat.lt_of_lt_of_le mk.lt nx.size, ⟨t, z, z1, z2, by rw [k1]; exact z3⟩, k2⟩
  · rw [putA_get (hdst x hx d hd)]; exact ri.mt x (hin x hx) b hb d hd
  · have h1 := ri.mg x (hin x hx) b hb g hg hg2 hgi
    by_cases hgi2 : g.i = i
    · -- the entry itself is no effect
      have := rf.same hg nw.mem (hgi2.trans nw.idx.symm)
      rw [this] at hg2; omega
    · rw [getD_set_ne false (Ne.symm hgi2)]; exact h1
  · exact ri.dis.sublist (List.Sublist.append (List.Sublist.refl _) (List.sublist_cons_self _ _))
  · rw [putA_size]; exact ri.nt
  · by_cases hed : e.s.o.dst = some d
    · obtain ⟨m1, m2⟩ := (rf.tab e het).2 d hed
      rw [m1] at hT; cases hT
      exact ⟨v', by rw [hed]; exact putA_self (by rw [ri.nt]; exact m2), hv d hed⟩
    · obtain ⟨v2, e1, e2⟩ := ri.tm d v hT fun x hx => by
        rcases List.mem_append.1 hx with h | h
        · exact hno x (List.mem_append_left _ h)
        · cases h with
          | head => exact hed
          | tail _ h => exact hno x (List.mem_append_right _ h)
      exact ⟨v2, by rw [putA_get hed]; exact e1, e2.mono nx.le⟩
  · have h := ri.chain
    rw [List.map_append, List.map_cons] at h
    rw [List.map_append]
    exact chain_skip hc h
  · have h := ri.stab x (hin x hx) hxc
    rw [List.map_append, List.map_cons, effs_app, effs_cons_lt hc] at h
    rw [List.map_append, effs_app]; exact h

/-- A new variable is marked. -/
theorem ri_mark (rf : RF C run ops nt m all tot T) {A B : Us} {e : Ent} (ri : RI C low ops nt m all tot T h0 F ρ0 w0 listed (A ++ (e, none) :: B) tmps ρ H w) {i : Nat} (hi : i ∈ Region.ready .any ops listed) (him : i < m)
    (nw : Now C ops all listed A B e i) (het : e ∈ tot) (hc : e.s.c = 3) (hw : e.want = true) {t : TypeId} {z : Value} (ho : e.s.o.op = .alloc t) (hz : zeroOf C.P t = some z) {w1 : World}
    (eh : w1.heap = w.heap.push (.cells z.cells t)) (ev : w1.tape = w.tape ∧ w1.os = w.os ∧ w1.output = w.output) :
    RI C low ops nt m all tot T h0 F ρ0 w0 (listed.setIfInBounds i true) (A ++ (e, some w.heap.size) :: B) (putA tmps e.s.o.dst (ptr w.heap.size)) ρ H w1 := by
  have hin : ∀ x ∈ A ++ (e, some w.heap.size) :: B, x = (e, some w.heap.size) ∨ (x ∈ A ++ (e, none) :: B ∧ x.1.s.i ≠ i ∧ (∀ d, x.1.s.o.dst = some d → e.s.o.dst ≠ some d)) := fun x hx => by
    rcases List.mem_append.1 hx with h | h
    · refine .inr ⟨List.mem_append_left _ h, ?_, fun d hd he => ((pairOk_spec (nw.ha x h).2).2.1 d he).2 hd⟩
      have := (nw.ha x h).1; omega
    · cases h with
      | head => exact .inl rfl
      | tail _ h =>
        refine .inr ⟨List.mem_append_right _ (.tail _ h), ?_, fun d hd he => ((pairOk_spec (nw.hb x h).2).2.1 d hd).2 he⟩
        have := (nw.hb x h).1; omega
  have hmap : (A ++ (e, some w.heap.size) :: B).map (·.1) = (A ++ (e, none) :: B).map (·.1) := by simp
  have hsz : w1.heap.size = w.heap.size + 1 := by rw [eh, Array.size_push]
  have hs0 : w0.heap.size ≤ w.heap.size := ri.nx.size
  refine ⟨ri.rl.next hi him (by rw [hmap]; exact ri.rl.sub) (fun v hv hn => ?_) (fun v hv hn hni => ?_), fun x hx b hb => ?_, fun x hx b hb d hd => ?_, fun x hx b hb g hg hg2 hgi => ?_, ?_, ?_, fun d v hT hno => ?_, ?_, fun x hx hxc => ?_, ri.nx.push eh ev⟩
  · rcases hin v hv with rfl | ⟨h1, h2, _⟩
    · cases hn
    · exact ⟨h1, h2⟩
  · rcases List.mem_append.1 hv with h | h
    · exact List.mem_append_left _ h
    · cases h with
      | head => exact absurd nw.idx hni
      | tail _ h => exact List.mem_append_right _ (.tail _ h)
  · rcases hin x hx with rfl | ⟨h1, _, _⟩
    · cases hb
      refine ⟨hc, hw, hs0, by omega, ⟨t, z, ho, hz, by rw [eh]; simp⟩, ?_⟩
      rintro ⟨k, o, g, _, _, f3, f4⟩
      have := ri.nx.sim.bound k g f3
      omega
    · have mk := ri.mkd x h1 b hb
      obtain ⟨t2, z2, y1, y2, y3⟩ := mk.zero
      exact ⟨mk.c, mk.want, mk.old, by have := mk.lt; omega, ⟨t2, z2, y1, y2, by rw [eh, Array.getElem?_push, if_neg (by have := mk.lt; omega)]; exact y3⟩, mk.foot⟩
  · rcases hin x hx with rfl | ⟨h1, _, h3⟩
    · cases hb
      simp only at hd
      rw [hd]
      exact putA_self (by rw [ri.nt]; exact ((rf.tab e het).2 d hd).2)
    · rw [putA_get (h3 d hd)]; exact ri.mt x h1 b hb d hd
  · have hgne : g.i ≠ i := fun hgi2 => by
      have := rf.same hg nw.mem (hgi2.trans nw.idx.symm)
      rw [this] at hg2; omega
    rw [getD_set_ne false (Ne.symm hgne)]
    rcases hin x hx with rfl | ⟨h1, _, _⟩
    · -- whoever has the new variable ahead of it is not listed yet
      simp only at hgi
      have hb2 := (pairOk_spec (rf.pair nw.mem hg hgi)).2.2 hg2 (by omega)
      rw [(rf.slot hg).2.1] at hb2
      cases hx2 : listed.getD g.i false with
      | false => rfl
      | true =>
        have := ri.rl.closed g.i e.s.i hx2 hb2
        have hun := not_listed (mem_ready.1 hi).1
        rw [nw.idx, hun] at this; cases this
    · exact ri.mg x h1 b hb g hg hg2 hgi
  · -- the new block is none of the others
    have hd := ri.dis
    rw [List.pairwise_append] at hd ⊢
    obtain ⟨d1, d2, d3⟩ := hd
    cases d2 with
    | cons d4 d5 =>
    refine ⟨d1, .cons (fun x hx b b' hb hb' => ?_) d5, fun x hx y hy b b' hb hb' => ?_⟩
    · cases hb
      have := (ri.mkd x (List.mem_append_right _ (.tail _ hx)) b' hb').lt
      omega
    · cases hy with
      | head =>
        cases hb'
        have := (ri.mkd x (List.mem_append_left _ hx) b hb).lt
        omega
      | tail _ hy => exact d3 x hx y (.tail _ hy) b b' hb hb'
  · rw [putA_size]; exact ri.nt
  · have hed : e.s.o.dst ≠ some d := hno (e, some w.heap.size) (List.mem_append_right _ (.head _))
    obtain ⟨v2, e1, e2⟩ := ri.tm d v hT fun x hx => by
      rcases List.mem_append.1 hx with h | h
      · exact hno x (List.mem_append_left _ h)
      · cases h with
        | head => exact hed
        | tail _ h => exact hno x (List.mem_append_right _ (.tail _ h))
    exact ⟨v2, by rw [putA_get hed]; exact e1, e2⟩
  · rw [hmap]; exact ri.chain
  · rw [hmap]
    rcases hin x hx with rfl | ⟨h1, _, _⟩
    · simp only at hxc; omega
    · exact ri.stab x h1 hxc

/-- Behind an effect. -/
theorem ri_eff (rf : RF C run ops nt m all tot T) {A B : Us} {e : Ent} (ri : RI C low ops nt m all tot T h0 F ρ0 w0 listed (A ++ (e, none) :: B) tmps ρ H w) {i : Nat} (hi : i ∈ Region.ready .any ops listed) (him : i < m)
    (nw : Now C ops all listed A B e i) (het : e ∈ tot) (hc : e.s.c = 2) {ρ1 : Emb} {H1 : AH} (hle : ρ.le ρ1) (nx1 : Nx C low ρ0 h0 w0 ρ1 H1 w) (hch : Chain H1 (e :: B.map (·.1)) F)
    (hft : ∀ b, Foot C ρ1 H1 b → Foot C ρ H b ∨ ∃ u ∈ A, u.2 = some b) (hnm : ∀ u ∈ A, ∀ b, u.2 = some b → VR ρ1 u.1.v (ptr b))
    {ρ2 : Emb} {w1 : World} {v' : Value} (nx : Nx C low ρ1 H1 w ρ2 e.post w1) (hv : ∀ d, e.s.o.dst = some d → VR ρ2 e.v v') :
    RI C low ops nt m all tot T h0 F ρ0 w0 (listed.setIfInBounds i true) (A.filter (·.2.isNone) ++ B) (putA tmps e.s.o.dst v') ρ2 e.post w1 := by
  have hA : ∀ x ∈ A, x.2 = none → x.1.s.c < 2 := fun x hx hn => by
    apply Classical.byContradiction
    intro hcx
    have := nw.anc _ ((pairOk_spec (nw.ha x hx).2).2.2 hc hcx)
    rw [not_listed (ri.rl.ul x (List.mem_append_left _ hx) hn)] at this; cases this
  have hfl : ∀ x ∈ A.filter (·.2.isNone), x ∈ A ∧ x.2 = none := fun x hx => by
    obtain ⟨h1, h2⟩ := List.mem_filter.1 hx
    exact ⟨h1, by simpa using h2⟩
  have hin : ∀ x ∈ A.filter (·.2.isNone) ++ B, (x ∈ A ∧ x.2 = none) ∨ x ∈ B := fun x hx => by
    rcases List.mem_append.1 hx with h | h
    · exact .inl (hfl x h)
    · exact .inr h
  have hus : ∀ x, (x ∈ A ∧ x.2 = none) ∨ x ∈ B → x ∈ A ++ (e, none) :: B := fun x hx => by
    rcases hx with h | h
    · exact List.mem_append_left _ h.1
    · exact List.mem_append_right _ (.tail _ h)
  have hdst : ∀ x, x ∈ A ∨ x ∈ B → ∀ d, x.1.s.o.dst = some d → e.s.o.dst ≠ some d := fun x hx d hd he => by
    rcases hx with h | h
    · exact ((pairOk_spec (nw.ha x h).2).2.1 d he).2 hd
    · exact ((pairOk_spec (nw.hb x h).2).2.1 d hd).2 he
  have hc2 : ¬ e.s.c < 2 := by omega
  have hdis := ri.dis
  rw [List.pairwise_append] at hdis
  obtain ⟨_, d2, d3⟩ := hdis
  refine ⟨ri.rl.next hi him (sub_filter ri.rl.sub) (fun v hv hn => ⟨hus v (hin v hv), ?_⟩) (fun v hv hn hni => ?_), fun x hx b hb => ?_, fun x hx b hb d hd => ?_, fun x hx b hb g hg hg2 hgi => ?_, ?_, ?_, fun d v hT hno => ?_, ?_, fun x hx hxc => ?_, nx1.trans nx⟩
  · rcases hin v hv with h | h
    · have := (nw.ha v h.1).1; omega
    · have := (nw.hb v h).1; omega
  · rcases List.mem_append.1 hv with h | h
    · exact List.mem_append_left _ (List.mem_filter.2 ⟨h, by simp [hn]⟩)
    · cases h with
      | head => exact absurd nw.idx hni
      | tail _ h => exact List.mem_append_right _ h
  · rcases hin x hx with h | h
    · rw [h.2] at hb; cases hb
    · have mk := ri.mkd x (List.mem_append_right _ (.tail _ h)) b hb
      have hnf : ¬ Foot C ρ1 H1 b := fun hf => by
        rcases hft b hf with hf | ⟨u, hu, hub⟩
        · exact mk.foot hf
        · exact d3 u hu x (.tail _ h) b b hub hb rfl
      obtain ⟨k1, k2⟩ := nx.keep b mk.lt hnf
      obtain ⟨t, z, z1, z2, z3⟩ := mk.zero
      exact ⟨mk.c, mk.want, mk.old, Nat.lt_of_lt_of_le mk.lt nx.size, ⟨t, z, z1, z2, by rw [k1]; exact z3⟩, k2⟩
  · rcases hin x hx with h | h
    · rw [h.2] at hb; cases hb
    · rw [putA_get (hdst x (.inr h) d hd)]; exact ri.mt x (List.mem_append_right _ (.tail _ h)) b hb d hd
  · rcases hin x hx with h | h
    · rw [h.2] at hb; cases hb
    · have := (nw.hb x h).1
      rw [getD_set_ne false (by omega)]
      exact ri.mg x (List.mem_append_right _ (.tail _ h)) b hb g hg hg2 hgi
  · refine ri.dis.sublist (List.Sublist.append List.filter_sublist (List.sublist_cons_self _ _))
  · rw [putA_size]; exact ri.nt
  · by_cases hed : e.s.o.dst = some d
    · obtain ⟨m1, m2⟩ := (rf.tab e het).2 d hed
      rw [m1] at hT; cases hT
      exact ⟨v', by rw [hed]; exact putA_self (by rw [ri.nt]; exact m2), hv d hed⟩
    · by_cases hmk : ∃ x ∈ A, x.1.s.o.dst = some d
      · obtain ⟨x, hxA, hxd⟩ := hmk
        cases hx2 : x.2 with
        | none => exact absurd hxd (hno x (List.mem_append_left _ (List.mem_filter.2 ⟨hxA, by simp [hx2]⟩)))
        | some b =>
          have hxu : x ∈ A ++ (e, none) :: B := List.mem_append_left _ hxA
          obtain ⟨m1, _⟩ := (rf.tab x.1 (ri.rl.mem hxu)).2 d hxd
          rw [m1] at hT; cases hT
          exact ⟨ptr b, by rw [putA_get hed]; exact ri.mt x hxu b hx2 d hxd, (hnm x hxA b hx2).mono nx.le⟩
      · obtain ⟨v2, e1, e2⟩ := ri.tm d v hT fun x hx => by
          rcases List.mem_append.1 hx with h | h
          · exact fun he => hmk ⟨x, h, he⟩
          · cases h with
            | head => exact hed
            | tail _ h => exact hno x (List.mem_append_right _ h)
        exact ⟨v2, by rw [putA_get hed]; exact e1, (e2.mono hle).mono nx.le⟩
  · rw [List.map_append]
    refine chain_add (fun a ha => ?_) (hch.2 hc2).2
    obtain ⟨x, hx, rfl⟩ := List.mem_map.1 ha
    exact hA x (hfl x hx).1 (hfl x hx).2
  · have h := ri.stab x (hus x (hin x hx)) hxc
    have hA0 : effsOf (A.map (·.1)) = [] := effs_none fun a ha => by
      obtain ⟨y, hy, rfl⟩ := List.mem_map.1 ha
      intro hy2
      cases hy3 : y.2 with
      | none => have := hA y hy hy3; omega
      | some b => have := (ri.mkd y (List.mem_append_left _ hy) b hy3).c; omega
    have hF0 : effsOf ((A.filter (·.2.isNone)).map (·.1)) = [] := effs_none fun a ha => by
      obtain ⟨y, hy, rfl⟩ := List.mem_map.1 ha
      have := hA y (hfl y hy).1 (hfl y hy).2
      omega
    rw [List.map_append, List.map_cons, effs_app, hA0, effs_cons_2 hc, List.nil_append] at h
    rw [List.map_append, effs_app, hF0, List.nil_append]
    simp only [stab, Bool.and_eq_true, Bool.or_eq_true] at h
    rcases h.2 with h | h
    · have := nw.anc _ h
      have hn : x.2 = none := by
        rcases hin x hx with h | h
        · exact h.2
        · cases hx3 : x.2 with
          | none => rfl
          | some b => have := (ri.mkd x (List.mem_append_right _ (.tail _ h)) b hx3).c; omega
      rw [not_listed (ri.rl.ul x (hus x (hin x hx)) hn)] at this; cases this
    · exact h
end
end Go.Ev
namespace Go.Ev
open Go

theorem clsOf_cases (P : Program) (op : Op) : clsOf P op = 1 ∨ clsOf P op = 2 ∨ clsOf P op = 3 := by
  unfold clsOf
  split <;> (try split) <;> simp

theorem clsOf_3 {P : Program} {op : Op} (h : clsOf P op = 3) : ∃ t, op = .alloc t := by
  unfold clsOf at h
  split at h <;> (try split at h) <;> first
    | (cases h; done)
    | exact ⟨_, rfl⟩

section
variable {P : Program} {fr : Frame} {cs : List Frame} {ops : Array Oper} {i : Nat} {rest : List Nat} {k : List Item} {o : Oper} {w w1 : World}
theorem step_unwanted (hm : fr.mode = .run) (ht : fr.todo = .inRegion ops (i :: rest) :: k) (ho : ops[i]? = some o) (hw : Region.wanted o (yielded ops fr.tmps) = false) :
    step P (lone fr cs w) = .next (lone (fr.finish undef) cs w) := step_lone_go (by simp [stepG, stepG.exec, hm, ht, ho, hw])
end

section
variable {C : Cfg} {fr : Frame} {cs : List Frame} {ops : Array Oper} {i : Nat} {rest : List Nat} {k : List Item} {o : Oper} {w w1 : World}
theorem step_val (hm : fr.mode = .run) (ht : fr.todo = .inRegion ops (i :: rest) :: k) (ho : ops[i]? = some o) (hw : Region.wanted o (yielded ops fr.tmps) = true) (hd : fr.roundOf = none ∨ ∀ c, o.op ≠ .defer c)
    {v : Value} (hr : (execOp fr.eval o).run C.P w = .ok (.value v) w1) : step C.P (lone fr cs w) = .next (lone (fr.finish v) cs w1) :=
  step_lone_go (by rw [stepG_oper hm ht ho hw hd]; simp [stepG.apply, hr])
theorem step_skip (hm : fr.mode = .run) (ht : fr.todo = .inRegion ops (i :: rest) :: k) (ho : ops[i]? = some o) (hw : Region.wanted o (yielded ops fr.tmps) = true) (hd : fr.roundOf = none ∨ ∀ c, o.op ≠ .defer c)
    (hr : (execOp fr.eval o).run C.P w = .ok .skip w1) : step C.P (lone fr cs w) = .next (lone (fr.finish undef) cs w1) :=
  step_lone_go (by rw [stepG_oper hm ht ho hw hd]; simp [stepG.apply, hr])
theorem step_enter (hm : fr.mode = .run) (ht : fr.todo = .inRegion ops (i :: rest) :: k) (ho : ops[i]? = some o) (hw : Region.wanted o (yielded ops fr.tmps) = true) (hd : fr.roundOf = none ∨ ∀ c, o.op ≠ .defer c)
    {f : FuncId} {args : Array Value} (hr : (execOp fr.eval o).run C.P w = .ok (.enter f args) w1) : step C.P (lone fr cs w) = .next (lone (Frame.enter C.P f args .normal) (fr :: cs) w1) :=
  step_lone_go (by rw [stepG_oper hm ht ho hw hd]; simp [stepG.apply, hr, ht])
theorem step_panic (hm : fr.mode = .run) (ht : fr.todo = .inRegion ops (i :: rest) :: k) (ho : ops[i]? = some o) (hw : Region.wanted o (yielded ops fr.tmps) = true) (hd : fr.roundOf = none ∨ ∀ c, o.op ≠ .defer c)
    {v : Value} (hr : (execOp fr.eval o).run C.P w = .halt (.panic v) w1) : step C.P (lone fr cs w) = .next (lone (fr.raise [{ v, recovered := false }]) cs w1) :=
  step_lone_go (by rw [stepG_oper hm ht ho hw hd]; simp [stepG.apply, hr])
end

section
variable {C : Cfg} {low : Nat → Option Obj} {run : AS → Option (End × AH)} {ops : Array Oper} {nt m : Nat} {all : List Slot} {tot : List Ent} {T : Tr Value} {h0 F : AH} {ρ0 : Emb} {w0 : World}
variable {listed : Array Bool} {us : Us} {tmps : Array Value} {ρ : Emb} {H : AH} {w : World} {fr : Frame} {k' : List Item}

theorem not_defer {ev : Ev} {h : AH} {o : Oper} {r : OpR} (ha : aop C ev h o = some r) (hr : ∀ d, r ≠ .defer d) : ∀ c, o.op ≠ .defer c := fun c hc => by
  obtain ⟨d, hd⟩ := aop_defer hc ha
  exact hr d hd

theorem ri_reader (ok : Ok C low) (rf : RF C run ops nt m all tot T) {A B : Us} {e : Ent} (ri : RI C low ops nt m all tot T h0 F ρ0 w0 listed (A ++ (e, none) :: B) tmps ρ H w) (hmode : fr.mode = .run)
    {i : Nat} (hi : i ∈ Region.ready .any ops listed) (him : i < m) (nw : Now C ops all listed A B e i) (het : e ∈ tot) (hc : e.s.c = 1) (L : List Nat) (cs : List Frame) :
    ∃ tmps1 ρ1 w1, Steps C.P (lone (rfr fr ops k' tmps (i :: L)) cs w) (lone (rfr fr ops k' tmps1 L) cs w1) ∧
      RI C low ops nt m all tot T h0 F ρ0 w0 (listed.setIfInBounds i true) (A ++ B) tmps1 ρ1 H w1 := by
  obtain ⟨hwant, hsem⟩ := rf.each e het
  obtain ⟨hpt, _⟩ := rf.tab e het
  have htm : TmR ρ e.pt tmps := fun d v hd => by
    obtain ⟨m1, m2⟩ := hpt d v hd
    rcases look_slot rf ri nw.mem nw.anc m1 m2 with h | ⟨h, _⟩
    · exact h
    · omega
  have hwr := wanted_rel htm hwant
  have hmem : (e, (none : Option Nat)) ∈ A ++ (e, none) :: B := List.mem_append_right _ (.head _)
  have hm' : (rfr fr ops k' tmps (i :: L)).mode = .run := hmode
  have ht' : (rfr fr ops k' tmps (i :: L)).todo = .inRegion ops (i :: L) :: k' := rfl
  cases hwt : e.want with
  | false =>
    rw [hwt] at hwr
    have hv : e.v = undef := by
      rcases hsem with h | h | h | h
      · exact h.2.1
      · rw [h.1] at hwt; cases hwt
      · rw [h.1] at hwt; cases hwt
      · rw [h.1] at hwt; cases hwt
    refine ⟨_, ρ, w, .one ((step_unwanted hm' ht' nw.op hwr).trans ?_), ri_drop rf ri hi him nw het (by omega) (Nx.refl ri.nx.sim) (v' := undef) (fun _ _ => by rw [hv]; exact undef_rel)⟩
    rw [rfr_finish nw.op]
  | true =>
    rw [hwt] at hwr
    have hgood : good C e H = true := by
      have h := ri.stab _ hmem (by show e.s.c < 2; omega)
      simp only at h
      cases heff : effsOf ((A ++ (e, none) :: B).map (·.1)) with
      | nil => rw [heff] at h; exact h
      | cons g gs =>
        rw [heff] at h
        simp only [stab, Bool.and_eq_true, Bool.or_eq_true] at h
        rcases h.1 with h | h
        · exfalso
          have hg : g ∈ effsOf ((A ++ (e, none) :: B).map (·.1)) := by rw [heff]; exact .head _
          obtain ⟨g1, g2⟩ := List.mem_filter.1 hg
          obtain ⟨x, hx, rfl⟩ := List.mem_map.1 g1
          have hx2 : x.2 = none := by
            cases hx3 : x.2 with
            | none => rfl
            | some b =>
              have h3 := (ri.mkd x hx b hx3).c
              have h2 := nbeq.1 g2
              omega
          have := nw.anc _ h
          rw [not_listed (ri.rl.ul x hx hx2)] at this; cases this
        · exact h
    simp only [good, hwt, Bool.not_true, Bool.false_or] at hgood
    split at hgood
    · rename_i v1 h1 ha
      have hh := aop_reader (by rw [← nw.cls]; exact hc) ha
      subst hh
      have hev : EvR ρ (evOf C e.pt) (rfr fr ops k' tmps (i :: L)).eval := evOf_rel ri.nx.sim htm
      obtain ⟨ρ1, w1, v', run1, nx, hv⟩ := aop_sound ok ri.nx.sim hev ha
      refine ⟨_, ρ1, w1, .one ((step_val hm' ht' nw.op hwr (.inr (not_defer ha (by intro d h; cases h))) run1).trans ?_), ri_drop rf ri hi him nw het (by omega) nx (v' := v') (fun d hd => ?_)⟩
      · rw [rfr_finish nw.op]
      · rw [hd] at hgood
        simp only at hgood
        rw [← eqV_eq _ _ hgood]; exact hv
    · cases hgood

theorem ri_float (rf : RF C run ops nt m all tot T) {A B : Us} {e : Ent} (ri : RI C low ops nt m all tot T h0 F ρ0 w0 listed (A ++ (e, none) :: B) tmps ρ H w) (hmode : fr.mode = .run)
    {i : Nat} (hi : i ∈ Region.ready .any ops listed) (him : i < m) (nw : Now C ops all listed A B e i) (het : e ∈ tot) (hc : e.s.c = 3) (L : List Nat) (cs : List Frame) :
    ∃ tmps1 w1, Steps C.P (lone (rfr fr ops k' tmps (i :: L)) cs w) (lone (rfr fr ops k' tmps1 L) cs w1) ∧
      RI C low ops nt m all tot T h0 F ρ0 w0 (listed.setIfInBounds i true) (A ++ (e, some w.heap.size) :: B) tmps1 ρ H w1 := by
  obtain ⟨hwant, hsem⟩ := rf.each e het
  have hself := rf.aself _ nw.mem
  simp only [selfOk, Bool.and_eq_true, Bool.or_eq_true, Bool.not_eq_true'] at hself
  have hgd : e.s.o.guard = none := by
    rcases hself.2 with h | h
    · rw [hc] at h; cases h
    · simpa using h
  have hwt : e.want = true := by
    simp only [wantedF, hgd, Option.some.injEq] at hwant
    exact hwant.symm
  obtain ⟨t, ho⟩ := clsOf_3 (nw.cls.symm.trans hc)
  have ha : aop C (evOf C e.pt) e.pre e.s.o = some (.val e.v e.post) := by
    rcases hsem with h | h | h | h
    · rw [h.1] at hwt; cases hwt
    · omega
    · exact h.2.2
    · exact absurd hc h.2.2.1
  obtain ⟨z, hz⟩ : ∃ z, zeroOf C.P t = some z := by
    unfold aop at ha
    rw [ho] at ha
    simp only [Option.bind_eq_some_iff] at ha
    obtain ⟨z, hz, _⟩ := ha
    exact ⟨z, hz⟩
  have hm' : (rfr fr ops k' tmps (i :: L)).mode = .run := hmode
  have ht' : (rfr fr ops k' tmps (i :: L)).todo = .inRegion ops (i :: L) :: k' := rfl
  have hwr : Region.wanted e.s.o (yielded ops (rfr fr ops k' tmps (i :: L)).tmps) = true := by simp [Region.wanted, hgd]
  have hrun : (execOp (rfr fr ops k' tmps (i :: L)).eval e.s.o).run C.P w = .ok (.value (ptr w.heap.size)) { w with heap := w.heap.push (.cells z.cells t) } := by
    simp [execOp, ho, Instr.alloc, run_zeroValue hz, newVar, Go.newRow, ptr]
  refine ⟨_, _, .one ((step_val hm' ht' nw.op hwr (.inr fun c h => by rw [ho] at h; cases h) hrun).trans ?_), ri_mark (w1 := { w with heap := w.heap.push (.cells z.cells t) }) rf ri hi him nw het hc hwt ho hz rfl ⟨rfl, rfl, rfl⟩⟩
  rw [rfr_finish nw.op]

/-- The new variables ahead of an effect get their names. -/
theorem ri_names (s0 : Sim C low ρ0 h0 w0) (rf : RF C run ops nt m all tot T) {A : Us} {rest : List Ent} (ri : RI C low ops nt m all tot T h0 F ρ0 w0 listed us tmps ρ H w)
    (hA : ∀ x ∈ A, x ∈ us) (hch : Chain H (A.map (·.1) ++ rest) F) (hrd : ∀ u ∈ A, u.2 = none → u.1.s.c < 2) (hd : A.Pairwise (fun u v => ∀ b b', u.2 = some b → v.2 = some b' → b ≠ b'))
    {f : Slot} (hf : f ∈ all) (anc : ∀ j, f.b.testBit j = true → listed.getD j false = true) (hlow : ∀ x ∈ us, x.1.s.i < f.i → x ∈ A) {pt : Tr Value} (hpt : ∀ d v, pt.get d = some v → d ∈ f.looks ∧ T.get d = some v) :
    ∃ ρ1 H1, ρ.le ρ1 ∧ Nx C low ρ0 h0 w0 ρ1 H1 w ∧ Chain H1 rest F ∧ (∀ b, Foot C ρ1 H1 b → Foot C ρ H b ∨ ∃ u ∈ A, u.2 = some b) ∧
      (∀ u ∈ A, ∀ b, u.2 = some b → VR ρ1 u.1.v (ptr b)) ∧ TmR ρ1 pt tmps := by
  obtain ⟨ρ1, H1, l1, n1, c1, f1, v1⟩ := name_all s0 A rest F ρ H ri.nx hch (fun u hu => (rf.each _ (ri.rl.mem (hA u hu))).2) hrd (fun u hu b hb => ri.mkd u (hA u hu) b hb) hd
  refine ⟨ρ1, H1, l1, n1, c1, f1, v1, fun d v hd => ?_⟩
  obtain ⟨m1, m2⟩ := hpt d v hd
  rcases look_slot rf ri hf anc m1 m2 with ⟨v', e1, e2⟩ | ⟨_, x, hx, b, hb, hlt, hxd⟩
  · exact ⟨v', e1, e2.mono l1⟩
  · have hxA := hlow x hx hlt
    obtain ⟨q1, _⟩ := (rf.tab x.1 (ri.rl.mem hx)).2 d hxd
    rw [q1] at m2; cases m2
    exact ⟨ptr b, ri.mt x hx b hb d hxd, v1 x hxA b hb⟩

theorem ri_effect (ok : Ok C low) (hrun : RunOk C low run) (s0 : Sim C low ρ0 h0 w0) (rf : RF C run ops nt m all tot T) {A B : Us} {e : Ent} (ri : RI C low ops nt m all tot T h0 F ρ0 w0 listed (A ++ (e, none) :: B) tmps ρ H w) (hmode : fr.mode = .run)
    {i : Nat} (hi : i ∈ Region.ready .any ops listed) (him : i < m) (nw : Now C ops all listed A B e i) (het : e ∈ tot) (hc : e.s.c = 2) (L : List Nat) (cs : List Frame) :
    ∃ tmps1 ρ1 w1, Steps C.P (lone (rfr fr ops k' tmps (i :: L)) cs w) (lone (rfr fr ops k' tmps1 L) cs w1) ∧
      RI C low ops nt m all tot T h0 F ρ0 w0 (listed.setIfInBounds i true) (A.filter (·.2.isNone) ++ B) tmps1 ρ1 e.post w1 := by
  obtain ⟨hwant, hsem⟩ := rf.each e het
  obtain ⟨hpt, _⟩ := rf.tab e het
  have hAin : ∀ x ∈ A, x ∈ A ++ (e, none) :: B := fun x hx => List.mem_append_left _ hx
  have hrd : ∀ x ∈ A, x.2 = none → x.1.s.c < 2 := fun x hx hn => by
    apply Classical.byContradiction
    intro hcx
    have := nw.anc _ ((pairOk_spec (nw.ha x hx).2).2.2 hc hcx)
    rw [not_listed (ri.rl.ul x (hAin x hx) hn)] at this; cases this
  have hch := ri.chain
  rw [List.map_append, List.map_cons] at hch
  have hdis := ri.dis
  rw [List.pairwise_append] at hdis
  have hlow : ∀ x ∈ A ++ (e, none) :: B, x.1.s.i < e.s.i → x ∈ A := fun x hx hlt => by
    rcases List.mem_append.1 hx with h | h
    · exact h
    · cases h with
      | head => exact absurd hlt (Nat.lt_irrefl _)
      | tail _ h =>
        have := (nw.hb x h).1
        have := nw.idx
        omega
  obtain ⟨ρ1, H1, l1, n1, c1, f1, v1, htm⟩ := ri_names s0 rf ri hAin hch hrd hdis.1 nw.mem nw.anc hlow hpt
  have hpre : e.pre = H1 := (c1.2 (by show ¬ e.s.c < 2; omega)).1
  have hwr := wanted_rel htm hwant
  have hm' : (rfr fr ops k' tmps (i :: L)).mode = .run := hmode
  have ht' : (rfr fr ops k' tmps (i :: L)).todo = .inRegion ops (i :: L) :: k' := rfl
  have hev : EvR ρ1 (evOf C e.pt) (rfr fr ops k' tmps (i :: L)).eval := evOf_rel n1.sim htm
  have fin : ∀ {ρ2 : Emb} {w1 : World} {v' : Value}, Nx C low ρ1 H1 w ρ2 e.post w1 → (∀ d, e.s.o.dst = some d → VR ρ2 e.v v') →
      Steps C.P (lone (rfr fr ops k' tmps (i :: L)) cs w) (lone ((rfr fr ops k' tmps (i :: L)).finish v') cs w1) →
      ∃ tmps1 ρ1 w1, Steps C.P (lone (rfr fr ops k' tmps (i :: L)) cs w) (lone (rfr fr ops k' tmps1 L) cs w1) ∧
        RI C low ops nt m all tot T h0 F ρ0 w0 (listed.setIfInBounds i true) (A.filter (·.2.isNone) ++ B) tmps1 ρ1 e.post w1 := by
    intro ρ2 w1 v' nx hv hst
    rw [rfr_finish nw.op] at hst
    exact ⟨_, ρ2, w1, hst, ri_eff rf ri hi him nw het hc l1 n1 c1 f1 v1 nx hv⟩
  rcases hsem with ⟨g1, g2, g3, _⟩ | ⟨_, g2, _⟩ | ⟨_, g2, _⟩ | ⟨g1, _, _, g4⟩
  · rw [g1] at hwr
    refine fin (ρ2 := ρ1) (w1 := w) (v' := undef) ?_ (fun _ _ => by rw [g2]; exact undef_rel) (.one (step_unwanted hm' ht' nw.op hwr))
    rw [g3, hpre]; exact Nx.refl n1.sim
  · omega
  · omega
  · rw [g1] at hwr
    rw [hpre] at g4
    rcases g4 with ha | ⟨ha, hu⟩ | ⟨f, args, ha, hrc⟩
    · obtain ⟨ρ2, w1, v', run1, nx, hv⟩ := aop_sound ok n1.sim hev ha
      exact fin nx (fun _ _ => hv) (.one (step_val hm' ht' nw.op hwr (.inr (not_defer ha (by intro d h; cases h))) run1))
    · obtain ⟨ρ2, w1, run1, nx⟩ := aop_sound ok n1.sim hev ha
      exact fin nx (fun _ _ => by rw [hu]; exact undef_rel) (.one (step_skip hm' ht' nw.op hwr (.inr (not_defer ha (by intro d h; cases h))) run1))
    · obtain ⟨args', run1, har⟩ := aop_sound ok n1.sim hev ha
      have hst := step_enter (cs := cs) hm' ht' nw.op hwr (.inr (not_defer ha (by intro d h; cases h))) run1
      obtain ⟨ρ2, w1, frL, e', r1, r2, r3, nx⟩ := runCall_sound ok hrun n1.sim hrc har (rfr fr ops k' tmps (i :: L) :: cs)
      obtain ⟨v', rfl, hv⟩ := r3
      exact fin nx (fun _ _ => hv) ((Steps.one hst).trans (r1.trans (.one (leave_call r2 (by intro e; cases e)))))

/-- A slot that panics. -/
theorem ri_panic (ok : Ok C low) (hrun : RunOk C low run) (s0 : Sim C low ρ0 h0 w0) (rf : RF C run ops nt m all tot T) (ri : RI C low ops nt m all tot T h0 F ρ0 w0 listed us tmps ρ H w) (hmode : fr.mode = .run)
    (hi : m ∈ Region.ready .any ops listed) {p : Slot} (hp : p ∈ all) (hpi : p.i = m) (hpc : p.c = 2) {pt : Tr Value} (hpt : ∀ d v, pt.get d = some v → d ∈ p.looks ∧ T.get d = some v)
    (hw : wantedF ops pt p.o = some true) {ch : List PanicEntry} {h1 : AH} (hps : PanSem C run pt p.o F ch h1) (L : List Nat) (cs : List Frame) :
    ∃ ch' ρ1 w1, Steps C.P (lone (rfr fr ops k' tmps (m :: L)) cs w) (lone ((rfr fr ops k' tmps (m :: L)).raise ch') cs w1) ∧ L2 (PeR ρ1) ch ch' ∧ Nx C low ρ0 h0 w0 ρ1 h1 w1 ∧ ρ.le ρ1 := by
  have hop : ops[m]? = some p.o := by rw [← hpi]; exact (rf.slot hp).1
  have anc : ∀ j, p.b.testBit j = true → listed.getD j false = true := fun j hj => ri.rl.anc hi (by rw [← hpi, ← (rf.slot hp).2.1]; exact hj)
  have hbefore : ∀ x ∈ us, x.1.s.i < p.i := fun x hx => by rw [hpi]; exact (rf.ent (ri.rl.mem hx)).2
  have hrd : ∀ x ∈ us, x.2 = none → x.1.s.c < 2 := fun x hx hn => by
    apply Classical.byContradiction
    intro hcx
    have := anc _ ((pairOk_spec (rf.pair (rf.ent (ri.rl.mem hx)).1 hp (hbefore x hx))).2.2 hpc hcx)
    rw [not_listed (ri.rl.ul x hx hn)] at this; cases this
  obtain ⟨ρ1, H1, l1, n1, c1, f1, v1, htm⟩ := ri_names (rest := []) s0 rf ri (fun x hx => hx) (by rw [List.append_nil]; exact ri.chain) hrd ri.dis hp anc (fun x hx _ => hx) hpt
  have hF : H1 = F := c1
  subst hF
  have hwr := wanted_rel htm hw
  have hm' : (rfr fr ops k' tmps (m :: L)).mode = .run := hmode
  have ht' : (rfr fr ops k' tmps (m :: L)).todo = .inRegion ops (m :: L) :: k' := rfl
  have hev : EvR ρ1 (evOf C pt) (rfr fr ops k' tmps (m :: L)).eval := evOf_rel n1.sim htm
  rcases hps with ⟨v, ha, rfl⟩ | ⟨f, args, ha, hrc⟩
  · obtain ⟨ρ2, w1, v', run1, nx, hv⟩ := aop_sound ok n1.sim hev ha
    exact ⟨_, ρ2, w1, .one (step_panic hm' ht' hop hwr (.inr (not_defer ha (by intro d h; cases h))) run1), peR_new hv, n1.trans nx, Emb.le_trans l1 nx.le⟩
  · obtain ⟨args', run1, har⟩ := aop_sound ok n1.sim hev ha
    have hst := step_enter (cs := cs) hm' ht' hop hwr (.inr (not_defer ha (by intro d h; cases h))) run1
    obtain ⟨ρ2, w1, frL, e', r1, r2, r3, nx⟩ := runCall_sound ok hrun n1.sim hrc har (rfr fr ops k' tmps (m :: L) :: cs)
    obtain ⟨l', rfl, hl⟩ := r3
    exact ⟨l', ρ2, w1, (Steps.one hst).trans (r1.trans (.one (leave_call r2 (by intro e; cases e)))), hl, n1.trans nx, Emb.le_trans l1 nx.le⟩

theorem ri_step (ok : Ok C low) (hrun : RunOk C low run) (s0 : Sim C low ρ0 h0 w0) (rf : RF C run ops nt m all tot T) (ri : RI C low ops nt m all tot T h0 F ρ0 w0 listed us tmps ρ H w) (hmode : fr.mode = .run)
    {i : Nat} (hi : i ∈ Region.ready .any ops listed) (him : i < m) (L : List Nat) (cs : List Frame) :
    ∃ us1 tmps1 ρ1 H1 w1, Steps C.P (lone (rfr fr ops k' tmps (i :: L)) cs w) (lone (rfr fr ops k' tmps1 L) cs w1) ∧
      RI C low ops nt m all tot T h0 F ρ0 w0 (listed.setIfInBounds i true) us1 tmps1 ρ1 H1 w1 ∧ cnt us1 < cnt us := by
  obtain ⟨A, B, e, rfl, nw, het⟩ := now_of rf ri hi him
  rcases clsOf_cases C.P e.s.o.op with hc | hc | hc <;> rw [← nw.cls] at hc
  · obtain ⟨tmps1, ρ1, w1, h1, h2⟩ := ri_reader (k' := k') ok rf ri hmode hi him nw het hc L cs
    exact ⟨_, tmps1, ρ1, H, w1, h1, h2, by rw [cnt_mid]; omega⟩
  · obtain ⟨tmps1, ρ1, w1, h1, h2⟩ := ri_effect (k' := k') ok hrun s0 rf ri hmode hi him nw het hc L cs
    exact ⟨_, tmps1, ρ1, _, w1, h1, h2, by rw [cnt_mid, cnt_filter]; omega⟩
  · obtain ⟨tmps1, w1, h1, h2⟩ := ri_float (k' := k') rf ri hmode hi him nw het hc L cs
    exact ⟨_, tmps1, ρ, H, w1, h1, h2, by rw [cnt_mid, cnt_mark]; omega⟩

theorem region_go (ok : Ok C low) (hrun : RunOk C low run) (s0 : Sim C low ρ0 h0 w0) (rf : RF C run ops nt m all tot T) (hmode : fr.mode = .run) (cs : List Frame) :
    ∀ (fuel t : Nat) (listed : Array Bool) (us : Us) (tmps : Array Value) (ρ : Emb) (H : AH) (w : World), RI C low ops nt m all tot T h0 F ρ0 w0 listed us tmps ρ H w → cnt us + (ops.size - m) ≤ fuel →
    (∃ listed1 us1 tmps1 ρ1 H1 w1, m = ops.size ∧ Steps C.P (lone (rfr fr ops k' tmps (Region.linearise.go .any ops fuel t listed [])) cs w) (lone (rfr fr ops k' tmps1 []) cs w1) ∧
      RI C low ops nt m all tot T h0 F ρ0 w0 listed1 us1 tmps1 ρ1 H1 w1 ∧ ∀ u ∈ us1, u.2 ≠ none) ∨
    (∃ listed1 us1 tmps1 ρ1 H1 w1 L, m < ops.size ∧ Steps C.P (lone (rfr fr ops k' tmps (Region.linearise.go .any ops fuel t listed [])) cs w) (lone (rfr fr ops k' tmps1 (m :: L)) cs w1) ∧
      RI C low ops nt m all tot T h0 F ρ0 w0 listed1 us1 tmps1 ρ1 H1 w1 ∧ m ∈ Region.ready .any ops listed1) := by
  intro fuel
  induction fuel with
  | zero =>
    intro t listed us tmps ρ H w ri hf
    have hm := rf.hm
    refine .inl ⟨listed, us, tmps, ρ, H, w, by omega, .refl _ _, ri, fun u hu hn => ?_⟩
    have : 0 < cnt us := List.length_pos_of_mem (List.mem_filter.2 ⟨hu, by simp [hn]⟩)
    omega
  | succ fuel ih =>
    intro t listed us tmps ρ H w ri hf
    have hgo : Region.linearise.go .any ops (fuel + 1) t listed [] = match (Region.ready .any ops listed)[t % (Region.ready .any ops listed).length]? with
        | some i => Region.linearise.go .any ops fuel (t / (Region.ready .any ops listed).length) (listed.setIfInBounds i true) [i]
        | none => [].reverse := rfl
    rw [hgo]
    cases hi : (Region.ready .any ops listed)[t % (Region.ready .any ops listed).length]? with
    | none =>
      have hnil : Region.ready .any ops listed = [] := by
        cases hr : Region.ready .any ops listed with
        | nil => rfl
        | cons x xs =>
          rw [hr] at hi
          have hlt : t % (x :: xs).length < (x :: xs).length := Nat.mod_lt _ (by simp)
          simp at hi
          simp at hlt
          omega
      have hall : ∀ i, i < ops.size → ¬ listed.getD i true = false := fun i hi hl => ri.rl.some_ready rf hi hl hnil
      have hmm : m = ops.size := by
        rcases Nat.lt_or_ge m ops.size with h | h
        · exact absurd (ri.rl.rest m (Nat.le_refl _) h) (hall m h)
        · have := rf.hm; omega
      refine .inl ⟨listed, us, tmps, ρ, H, w, hmm, .refl _ _, ri, fun u hu hn => ?_⟩
      have h1 := (rf.ent (ri.rl.mem hu)).2
      exact hall _ (by omega) (ri.rl.ul u hu hn)
    | some i =>
      have him := List.mem_of_getElem? hi
      simp only
      rw [linearise_go_acc, List.reverse_singleton, List.singleton_append]
      rcases Nat.lt_trichotomy i m with hlt | heq | hgt
      · obtain ⟨us1, tmps1, ρ1, H1, w1, h1, h2, h3⟩ := ri_step (k' := k') ok hrun s0 rf ri hmode him hlt
          (Region.linearise.go .any ops fuel (t / (Region.ready .any ops listed).length) (listed.setIfInBounds i true) []) cs
        rcases ih (t / (Region.ready .any ops listed).length) _ us1 tmps1 ρ1 H1 w1 h2 (by omega) with ⟨a, b, c, d, e, f, g1, g2, g3⟩ | ⟨a, b, c, d, e, f, g, g1, g2, g3⟩
        · exact .inl ⟨a, b, c, d, e, f, g1, h1.trans g2, g3⟩
        · exact .inr ⟨a, b, c, d, e, f, g, g1, h1.trans g2, g3⟩
      · subst heq
        have hlt : i < ops.size := by rw [← ri.rl.size]; exact listed_lt (mem_ready.1 him).1
        exact .inr ⟨listed, us, tmps, ρ, H, w, _, hlt, .refl _ _, ri, him⟩
      · exfalso
        have hlt : i < ops.size := by rw [← ri.rl.size]; exact listed_lt (mem_ready.1 him).1
        have hs := rf.at i
        rw [Array.getElem?_eq_getElem hlt, Option.map_some] at hs
        have hb := rf.later _ (List.mem_of_getElem? hs) hgt
        have := ri.rl.anc him hb
        rw [not_listed (ri.rl.rest m (Nat.le_refl _) (by omega))] at this; cases this
end
end Go.Ev
namespace Go.Ev
open Go

section
variable {C : Cfg} {low : Nat → Option Obj} {run : AS → Option (End × AH)} {ρ : Emb} {w : World}

theorem step_draw (hx : C.P.follows .mixedOrders = true) {fr : Frame} {cs : List Frame} {id : Nat} {ops : Array Oper} {k' : List Item} (hm : fr.mode = .run) (ht : fr.todo = .code (.region id ops true) :: k') :
    ∃ t, step C.P (lone fr cs w) = .next (lone (rfr fr ops k' fr.tmps (Region.linearise.go .any ops ops.size t (Array.replicate ops.size false) [])) cs { w with drawn := w.drawn + 1 }) := by
  refine ⟨w.tape w.drawn (.order fr.fn id), step_lone_go ?_⟩
  simp [stepG, stepG.exec, hm, ht, choose, Sem.run, Question.forced, Question.cut, Region.schedule, hx, rfr, Region.linearise]

/-- The beginning. -/
theorem ri_start {ops : Array Oper} {nt m : Nat} {all : List Slot} {tot : List Ent} {T t0 : Tr Value} {h0 F : AH} {tmps : Array Value} (rf : RF C run ops nt m all tot T) (s0 : Sim C low ρ h0 w) (ht : TmR ρ t0 tmps) (hn : tmps.size = nt)
    (hT : ∀ d, (∀ e ∈ tot, e.s.o.dst ≠ some d) → T.get d = t0.get d) (hch : Chain h0 tot F) (hl : regionLook C h0 tot = true) :
    RI C low ops nt m all tot T h0 F ρ w (Array.replicate ops.size false) (tot.map fun e => (e, none)) tmps ρ h0 w ∧ cnt (tot.map fun e => (e, (none : Option Nat))) = m := by
  have hmap : (tot.map fun e => (e, (none : Option Nat))).map (·.1) = tot := by simp [Function.comp_def]
  have hmem : ∀ u ∈ tot.map fun e => (e, (none : Option Nat)), u.1 ∈ tot ∧ u.2 = none := fun u hu => by
    obtain ⟨e, he, rfl⟩ := List.mem_map.1 hu
    exact ⟨he, rfl⟩
  have hun : ∀ i, i < ops.size → (Array.replicate ops.size false).getD i true = false := fun i hi => by simp [hi]
  have hno : ∀ i, (Array.replicate ops.size false).getD i false = false := fun i => by
    by_cases hi : i < ops.size
    · simp [hi]
    · simp [hi]
  refine ⟨⟨⟨by simp, by rw [hmap]; exact List.Sublist.refl _, fun u hu _ => hun _ ?_, fun i hi _ => ?_, fun i _ hi => hun i hi, fun i j hi _ => ?_⟩, fun u hu b hb => ?_, fun u hu b hb => ?_, fun u hu b hb => ?_, ?_, hn, fun d v hv hx => ?_, by rw [hmap]; exact hch, fun u hu hc => ?_, Nx.refl s0⟩, ?_⟩
  · have := (rf.ent (hmem u hu).1).2
    have := rf.hm
    omega
  · obtain ⟨e, he, hei⟩ := rf.ent_at hi
    exact ⟨(e, none), List.mem_map.2 ⟨e, he, rfl⟩, rfl, hei⟩
  · rw [hno i] at hi; cases hi
  · rw [(hmem u hu).2] at hb; cases hb
  · rw [(hmem u hu).2] at hb; cases hb
  · rw [(hmem u hu).2] at hb; cases hb
  · rw [List.pairwise_map]
    exact rf.incr.imp fun _ b b' hb => by cases hb
  · rw [hT d fun e he => hx (e, none) (List.mem_map.2 ⟨e, he, rfl⟩)] at hv
    exact ht d v hv
  · rw [hmap]
    simp only [regionLook, List.all_eq_true, Bool.or_eq_true, Bool.not_eq_true'] at hl
    rcases hl u.1 (hmem u hu).1 with h | h
    · rw [nblt.2 hc] at h; cases h
    · exact h
  · have : tot.length = m := by
      have h1 := congrArg List.length rf.tots
      have h2 := rf.hm
      have h3 : ops.toList.length = ops.size := Array.length_toList
      rw [List.length_map, List.length_take, rf.hall, slotsOf_length] at h1
      omega
    unfold cnt
    rw [List.filter_eq_self.2 (fun u hu => by rw [(hmem u hu).2]; rfl), List.length_map, this]

theorem regionStep_sound (ok : Ok C low) (hrun : RunOk C low run) {s : AS} {fr : Frame} {cs bot : List Frame} (m : MR C low ρ s fr cs w) (hm : s.fr.mode = .run) {id : Nat} {ops : Array Oper} {k : List Item}
    (ht : s.fr.todo = .code (.region id ops true) :: k) {s1 : AS} (hs : regionStep C run s ops k = .go s1) : GoOk C low ρ s.h fr cs bot w s1 := by
  have hm' := mode_run m.fr.mode hm
  obtain ⟨k', ht', hk'⟩ := todo_code m.fr.todo ht
  obtain ⟨t, hst⟩ := step_draw (w := w) (cs := cs ++ bot) ok.mixed hm' ht'
  unfold regionStep at hs
  simp only at hs
  generalize hsl : slotsOf C.P ops (Region.before ops) ops.toList 0 = sl at hs
  have hlen : sl.length = ops.size := by rw [← hsl, slotsOf_length, Array.length_toList]
  cases hr : rulesOk sl sl with
  | false => rw [hr] at hs; cases hs
  | true =>
    rw [hr] at hs
    simp only [cond_true] at hs
    obtain ⟨hpw, hself⟩ := rulesOk_spec sl sl hr
    have nx0 : Nx C low ρ s.h w ρ s.h { w with drawn := w.drawn + 1 } := Nx.same m.sim rfl ⟨rfl, rfl, rfl⟩
    have s0 := nx0.sim
    split at hs
    · cases hs
    · rename_i es T h1 hrr
      cases hl : regionLook C s.h es with
      | false => rw [hl] at hs; cases hs
      | true =>
        rw [hl] at hs
        simp only [cond_true, AOut.go.injEq] at hs
        subst hs
        obtain ⟨L, tr⟩ := regionRun_ok hrr
        obtain ⟨t1, t2⟩ := tr.table hpw hself
        have rf : RF C run ops s.fr.nt ops.size sl es T :=
          ⟨hsl.symm, hpw, hself, Nat.le_refl _, by rw [tr.slots, ← hlen, List.take_length], tr.each, t2, fun x hx hlt => by
            have := (List.getElem?_eq_some_iff.1 (show sl[x.i]? = some x from ?_)).1
            · omega
            · obtain ⟨j, hj⟩ := List.getElem?_of_mem hx
              have h := slotsOf_get C.P ops (Region.before ops) ops.toList 0 j
              rw [hsl, hj] at h
              cases ho : ops.toList[j]? with
              | none => rw [ho] at h; cases h
              | some o =>
                rw [ho] at h
                simp only [Option.map_some, Option.some.injEq, Nat.zero_add] at h
                rw [h]; rw [h] at hj; exact hj⟩
        have hes : ∀ d, (∀ e ∈ es, e.s.o.dst ≠ some d) → T.get d = s.fr.tmps.get d := fun d hd => t1 d fun x hx => by
          rw [← tr.slots] at hx
          obtain ⟨e, he, rfl⟩ := List.mem_map.1 hx
          exact hd e he
        obtain ⟨ri, hcnt⟩ := ri_start (T := T) rf s0 m.fr.tm m.fr.nt hes tr.chain hl
        rcases region_go (k' := k') ok hrun s0 rf hm' (cs ++ bot) ops.size t _ _ fr.tmps ρ s.h _ ri (by omega) with ⟨listed1, us1, tmps1, ρ1, H1, w1, _, g1, g2, g3⟩ | ⟨_, _, _, _, _, _, _, g1, _⟩
        · obtain ⟨ρ2, H2, l2, n2, c2, f2, v2⟩ := name_all s0 us1 [] h1 ρ1 H1 g2.nx (by rw [List.append_nil]; exact g2.chain) (fun u hu => (rf.each _ (g2.rl.mem hu)).2)
            (fun u hu hn => absurd hn (g3 u hu)) g2.mkd g2.dis
          have hF : H2 = h1 := c2
          subst hF
          have hend : step C.P (lone (rfr fr ops k' tmps1 []) (cs ++ bot) w1) = .next (lone { fr with tmps := tmps1, todo := k' } (cs ++ bot) w1) := by
            refine step_lone_go ?_
            simp [stepG, stepG.exec, rfr, hm']
          have nx := nx0.trans n2
          refine ⟨ρ2, { fr with tmps := tmps1, todo := k' }, cs, w1, (Steps.one hst).trans (g1.trans (.one hend)), ⟨⟨m.fr.fn, fun d v hd => ?_, g2.nt, hk'.mono fun _ _ x => x.mono nx.le, m.fr.defers.mono fun _ _ x => x.mono nx.le, m.fr.mode.mono nx.le, m.fr.kind, m.fr.round.mono nx.le⟩, m.cs.monoF nx.le, nx.sim⟩, nx⟩
          by_cases hx : ∃ x ∈ us1, x.1.s.o.dst = some d
          · obtain ⟨x, hxu, hxd⟩ := hx
            cases hx2 : x.2 with
            | none => exact absurd hx2 (g3 x hxu)
            | some b =>
              obtain ⟨q1, _⟩ := (t2 x.1 (g2.rl.mem hxu)).2 d hxd
              simp only at hd
              rw [q1] at hd; cases hd
              exact ⟨ptr b, g2.mt x hxu b hx2 d hxd, v2 x hxu b hx2⟩
          · obtain ⟨v', e1, e2⟩ := g2.tm d v hd fun u hu he => hx ⟨u, hu, he⟩
            exact ⟨v', e1, e2.mono l2⟩
        · omega
    · rename_i es T ch h1 p l1 hrr
      cases hl : (regionLook C s.h es && Nat.beq p.c 2 && l1.all fun x => x.b.testBit p.i) with
      | false => rw [hl] at hs; cases hs
      | true =>
        rw [hl] at hs
        simp only [cond_true, AOut.go.injEq] at hs
        subst hs
        simp only [Bool.and_eq_true, List.all_eq_true] at hl
        obtain ⟨⟨hl1, hl2⟩, hl3⟩ := hl
        obtain ⟨sl1, H0, L, e1, tr, e3⟩ := regionRun_panic hrr
        have hpw1 : sl1.Pairwise fun e f => pairOk sl e f = true := hpw.sublist (by rw [e1]; exact List.sublist_append_left _ _)
        have hself1 : ∀ x ∈ sl1, selfOk x = true := fun x hx => hself x (by rw [e1]; exact List.mem_append_left _ hx)
        obtain ⟨t1, t2⟩ := tr.table hpw1 hself1
        have hidx : ∀ (j : Nat) (x : Slot), sl[j]? = some x → x.i = j := fun j x hj => by
          have h := slotsOf_get C.P ops (Region.before ops) ops.toList 0 j
          rw [hsl, hj] at h
          cases ho : ops.toList[j]? with
          | none => rw [ho] at h; cases h
          | some o =>
            rw [ho] at h
            simp only [Option.map_some, Option.some.injEq, Nat.zero_add] at h
            rw [h]
        have hpm : p.i = sl1.length := hidx _ _ (by rw [e1]; simp)
        have hpin : p ∈ sl := by rw [e1]; exact List.mem_append_right _ (.head _)
        have hlt : sl1.length < ops.size := by rw [← hlen, e1]; simp
        have rf : RF C run ops s.fr.nt sl1.length sl es T :=
          ⟨hsl.symm, hpw, hself, by omega, by rw [tr.slots, e1]; simp, tr.each, t2, fun x hx hlt2 => by
            obtain ⟨j, hj⟩ := List.getElem?_of_mem hx
            have hji := hidx j x hj
            rw [e1, List.getElem?_append_right (by omega)] at hj
            obtain ⟨q, hq⟩ : ∃ q, j - sl1.length = q + 1 := ⟨j - sl1.length - 1, by omega⟩
            rw [hq, List.getElem?_cons_succ] at hj
            rw [← hpm]
            exact hl3 x (List.mem_of_getElem? hj)⟩
        have hes : ∀ d, (∀ e ∈ es, e.s.o.dst ≠ some d) → T.get d = s.fr.tmps.get d := fun d hd => t1 d fun x hx => by
          rw [← tr.slots] at hx
          obtain ⟨e, he, rfl⟩ := List.mem_map.1 hx
          exact hd e he
        obtain ⟨ri, hcnt⟩ := ri_start (T := T) rf s0 m.fr.tm m.fr.nt hes tr.chain hl1
        rcases region_go (k' := k') ok hrun s0 rf hm' (cs ++ bot) ops.size t _ _ fr.tmps ρ s.h _ ri (by omega) with ⟨_, _, _, _, _, _, g1, _⟩ | ⟨listed1, us1, tmps1, ρ1, H1, w1, L1, _, g1, g2, g3⟩
        · omega
        · obtain ⟨hw, hps⟩ := entOf_panic e3
          obtain ⟨ch', ρ2, w2, r1, r2, n2, l2⟩ := ri_panic (k' := k') ok hrun s0 rf g2 hm' g3 hpin hpm (nbeq.1 hl2) (fun d v hd => pickT_get hd) hw hps L1 (cs ++ bot)
          have nx := nx0.trans n2
          refine ⟨ρ2, (rfr fr ops k' tmps1 (sl1.length :: L1)).raise ch', cs, w2, (Steps.one hst).trans (g1.trans r1), ⟨raise_rel ?_ r2, m.cs.monoF nx.le, nx.sim⟩, nx⟩
          refine ⟨m.fr.fn, fun d v hd => ?_, g2.nt, .cons (.dead _ _) (hk'.mono fun _ _ x => x.mono nx.le), m.fr.defers.mono fun _ _ x => x.mono nx.le, m.fr.mode.mono nx.le, m.fr.kind, m.fr.round.mono nx.le⟩
          obtain ⟨q1, q2⟩ := forget_get hd
          obtain ⟨v', e1, e2⟩ := g2.tm d v q1 fun u hu => q2 _ (rf.ent (g2.rl.mem hu)).1
          exact ⟨v', e1, e2.mono l2⟩

/-! ## The whole run -/
theorem astep_sound (ok : Ok C low) (hrun : RunOk C low run) {s : AS} {fr : Frame} {cs bot : List Frame} (m : MR C low ρ s fr cs w) :
    (∀ s1, astep C run s = .go s1 → GoOk C low ρ s.h fr cs bot w s1) ∧
    (∀ n f, astep C run s = .pick n f → ∃ j, j < n ∧ ∀ s1, f j = some s1 → GoOk C low ρ s.h fr cs bot w s1) ∧
    ∀ e h1, astep C run s = .done e h1 → cs = [] ∧ (∃ e', fr.leaving C.P w e' ∧ EndR ρ e e') ∧ h1 = s.h := by
  by_cases hm : s.fr.mode = .run
  · cases ht : s.fr.todo with
    | nil =>
      have he : astep C run s = leaveF C s none := by
        obtain ⟨⟨fn,tmps,nt,todo,defers,mode,kind,roundOf⟩, scs, sh⟩ := s
        simp only at hm ht
        subst hm ht
        rfl
      rw [he]
      have hm' := mode_run m.fr.mode hm
      have ht' := todo_nil m.fr.todo ht
      refine ⟨fun s1 hs => leave_sound m hs (fun hr _ => ?_) (fun b v w1 hr hrun => ?_), fun n f hs => absurd hs (leaveF_only _ _).not_pick, fun e h1 hs => absurd hs (leaveF_only _ _).not_done⟩
      · exact step_lone_go (by simp [stepG, stepG.exec, hm', ht', hr])
      · simp [stepG, stepG.exec, hm', ht', hr, hrun]
    | cons it k =>
      by_cases hc : ∃ c, it = .code c
      · obtain ⟨c, rfl⟩ := hc
        refine ⟨fun s1 hs => code_sound ok m hm ht (fun id ops s1 hcr hs => ?_) hs, fun n f hs => ?_, fun e h1 hs => ?_⟩
        · subst hcr
          exact regionStep_sound ok hrun m hm ht hs
        · rw [astep_code hm ht] at hs
          exact absurd hs (codeF_only _ _ _ _).not_pick
        · rw [astep_code hm ht] at hs
          exact absurd hs (codeF_only _ _ _ _).not_done
      · by_cases hr : ∃ ops j r, it = .inRegion ops (j :: r)
        · obtain ⟨ops, j, r, rfl⟩ := hr
          have he : astep C run s = match ops[j]? with
              | none => .fail
              | some o =>
                match wantedF ops s.fr.tmps o with
                | none => .fail
                | some false => match finishF s.fr undef with
                  | some f => .go { s with fr := f }
                  | none => .fail
                | some true =>
                  match aop C (s.fr.ev C) s.h o with
                  | some r => afterOp C run s r
                  | none => .fail := by
            obtain ⟨⟨fn,tmps,nt,todo,defers,mode,kind,roundOf⟩, scs, sh⟩ := s
            simp only at hm ht
            subst hm ht
            rfl
          rw [he]
          cases ho : ops[j]? with
          | none => simp only; exact ⟨fun s1 hs => (by cases hs), fun n f hs => (by cases hs), fun e h1 hs => (by cases hs)⟩
          | some o =>
            simp only
            cases hw : wantedF ops s.fr.tmps o with
            | none => simp only; exact ⟨fun s1 hs => (by cases hs), fun n f hs => (by cases hs), fun e h1 hs => (by cases hs)⟩
            | some b =>
              cases b with
              | false =>
                simp only
                cases hf : finishF s.fr undef with
                | none => simp only; exact ⟨fun s1 hs => (by cases hs), fun n f hs => (by cases hs), fun e h1 hs => (by cases hs)⟩
                | some f =>
                  simp only
                  exact ⟨fun s1 hs => (by cases hs; exact unwanted_go m hm ht ho hw hf), fun n f hs => (by cases hs), fun e h1 hs => (by cases hs)⟩
              | true =>
                simp only
                cases ha : aop C (s.fr.ev C) s.h o with
                | none => simp only; exact ⟨fun s1 hs => (by cases hs), fun n f hs => (by cases hs), fun e h1 hs => (by cases hs)⟩
                | some r =>
                  simp only
                  obtain ⟨a1, a2, a3⟩ := afterOp_sound (bot := bot) ok hrun m hm ht ho hw ha
                  exact ⟨a1, a2, fun e h1 hs => absurd hs (a3 e h1)⟩
        · have hc' : ∀ c, it ≠ .code c := fun c e => hc ⟨c, e⟩
          have hr' : ∀ ops j r, it ≠ .inRegion ops (j :: r) := fun ops j r e => hr ⟨ops, j, r, e⟩
          refine ⟨fun s1 hs => items_sound ok m hm ht hc' hr' hs, fun n f hs => ?_, fun e h1 hs => ?_⟩
          · rw [astep_item hm ht hc' hr'] at hs
            exact absurd hs (itemF_only _ _ _).not_pick
          · rw [astep_item hm ht hc' hr'] at hs
            exact absurd hs (itemF_only _ _ _).not_done
  · have he : astep C run s = unwindF C s := by
      unfold astep
      split
      · rename_i h; exact absurd h hm
      · rfl
    rw [he]
    exact ⟨fun s1 hs => unwind_go ok m hm hs, fun n f hs => absurd hs unwind_pick, fun e h1 hs => unwind_done m hs⟩

theorem arun_sound (ok : Ok C low) (oo : OrcOk C low) : ∀ n, RunOk C low (arun C n) := by
  intro n
  induction n with
  | zero => exact ⟨fun s e h1 h => (by cases h), oo⟩
  | succ n ih =>
    refine ⟨fun s e h1 h ρ fr cs bot w m => ?_, oo⟩
    obtain ⟨a1, a2, a3⟩ := astep_sound (bot := bot) ok ih m
    unfold arun at h
    cases hs : astep C (arun C n) s with
    | go s1 =>
      simp only [hs] at h
      obtain ⟨ρ1, fr1, cs1, w1, r1, r2, r3⟩ := a1 s1 hs
      obtain ⟨ρ2, w2, frL, e', q1, q2, q3, q4⟩ := ih.1 s1 e h1 h ρ1 fr1 cs1 bot w1 r2
      exact ⟨ρ2, w2, frL, e', r1.trans q1, q2, q3, r3.trans q4⟩
    | done e2 h2 =>
      simp only [hs] at h
      cases h
      obtain ⟨rfl, ⟨e', q1, q2⟩, rfl⟩ := a3 e h1 hs
      exact ⟨ρ, w, fr, e', .refl _ _, q1, q2, Nx.refl m.sim⟩
    | pick k f =>
      simp only [hs] at h
      obtain ⟨j, hj, hall⟩ := a2 k f hs
      obtain ⟨a, ha, hle⟩ := pickAll_le _ k _ h j hj
      simp only [Option.bind_eq_some_iff] at ha
      obtain ⟨s1, hs1, ha⟩ := ha
      obtain ⟨ρ1, fr1, cs1, w1, r1, r2, r3⟩ := hall s1 hs1
      obtain ⟨e3, h3⟩ := a
      obtain ⟨ρ2, w2, frL, e', q1, q2, q3, q4⟩ := ih.1 s1 e3 h3 ha ρ1 fr1 cs1 bot w1 r2
      obtain ⟨l1, l2, l3⟩ := hle
      simp only at l1 l2 l3
      subst l1
      exact ⟨ρ2, w2, frL, e', r1.trans q1, q2, q3, (r3.trans q4).weaken l2 l3⟩
    | fail => simp only [hs] at h; cases h
end
end Go.Ev
namespace Go.Ev
open Go

/-! ## Runs in legs -/
def trOf {α : Type} : List (Nat × α) → Tr α
  | [] => .nil
  | (k, v) :: l => (trOf l).set k (some v)

theorem trOf_get {α : Type} : ∀ {l : List (Nat × α)} {k : Nat} {v : α}, (trOf l).get k = some v → (k, v) ∈ l
  | [], _, _, h => by cases h
  | (j, u) :: l, k, v, h => by
    simp only [trOf, Tr.get_set] at h
    by_cases hk : k = j
    · rw [if_pos hk] at h; cases h; subst hk; exact .head _
    · rw [if_neg hk] at h; exact .tail _ (trOf_get h)

def pickList {α : Type} (t : Nat → Option α) (ks : List Nat) : List (Nat × α) := ks.filterMap fun k => match t k with | some v => some (k, v) | none => none
theorem pickList_mem {α : Type} {t : Nat → Option α} {ks : List Nat} {k : Nat} {v : α} (h : (k, v) ∈ pickList t ks) : t k = some v := by
  obtain ⟨j, _, h2⟩ := List.mem_filterMap.1 h
  cases hj : t j with
  | none => rw [hj] at h2; cases h2
  | some u => rw [hj] at h2; cases h2; exact hj

def normT (t : Tr Value) (nt : Nat) : Tr Value := trOf (pickList t.get (List.range nt))
theorem normT_get {t : Tr Value} {nt i : Nat} {v : Value} (h : (normT t nt).get i = some v) : t.get i = some v := pickList_mem (trOf_get h)

def normF (f : AF) : AF := { f with tmps := normT f.tmps f.nt }
def normO : AO → AO
  | .loop st p fn t nt ps a b d => .loop st p fn (normT t nt) nt ps a b d
  | o => o
def normS (ks : List Nat) (s : AS) : AS := { fr := normF s.fr, cs := s.cs.map normF, h := { t := trOf (pickList (fun k => match s.h.get k with | some o => some (normO o) | none => none) ks), next := s.h.next } }

section
variable {C : Cfg} {low : Nat → Option Obj} {ρ : Emb} {h : AH} {w : World}

theorem normF_rel {f : AF} {f' : Frame} (r : FR ρ f f') : FR ρ (normF f) f' :=
  ⟨r.fn, fun i v hv => r.tm i v (normT_get hv), r.nt, r.todo, r.defers, r.mode, r.kind, r.round⟩

theorem normFs_rel {l : List AF} {l' : List Frame} (r : L2 (FR ρ) l l') : L2 (FR ρ) (l.map normF) l' := by
  induction r with
  | nil => exact .nil
  | cons a _ ih => exact .cons (normF_rel a) ih

theorem normO_rel {P : Program} {g : Img} {o : AO} {o' : Obj} (r : ObR P ρ g o o') : ObR P ρ g (normO o) o' := by
  cases r with
  | cells hz hx ho hc => exact .cells hz hx ho hc
  | map clock hs he => exact .map clock hs he
  | iterN since seen st hg => exact .iterN since seen st hg
  | iter hm since seen st hg => exact .iter hm since seen st hg
  | str s pos hg => exact .str s pos hg
  | loop ht hn hd => exact .loop (fun i v hv => ht i v (normT_get hv)) hn hd
  | defN => exact .defN
  | defS h => exact .defS h

/-- A heap that says less, of each object. -/
theorem Sim.loosen (s : Sim C low ρ h w) {h' : AH} (hn : h'.next = h.next) (hl : ∀ k o, h'.get k = some o → ∃ o1, h.get k = some o1 ∧ o = normO o1) : Sim C low ρ h' w := by
  refine ⟨fun k o hk => ?_, fun k k' o o' g g' a b => ?_, fun k hk => s.fresh k (hn ▸ hk), s.bound, s.sep, s.glob, s.low, hn ▸ s.nb⟩
  · obtain ⟨o1, h1, rfl⟩ := hl k o hk
    obtain ⟨g, o', e1, e2, e3⟩ := s.live k o1 h1
    exact ⟨g, o', e1, e2, normO_rel e3⟩
  · obtain ⟨o1, h1, _⟩ := hl k o a
    obtain ⟨o2, h2, _⟩ := hl k' o' b
    exact s.inj k k' o1 o2 g g' h1 h2

theorem norm_get {ks : List Nat} {s : AS} : ∀ k o, (normS ks s).h.get k = some o → ∃ o1, s.h.get k = some o1 ∧ o = normO o1 := fun k o hk => by
  have := pickList_mem (trOf_get (l := pickList (fun k => match s.h.get k with | some o => some (normO o) | none => none) ks) hk)
  cases hx : s.h.get k with
  | none => simp only [hx] at this; cases this
  | some o1 => simp only [hx] at this; cases this; exact ⟨o1, rfl, rfl⟩

theorem norm_sound {fr : Frame} {cs bot : List Frame} {s1 : AS} (ks : List Nat) (g : GoOk C low ρ h fr cs bot w s1) : GoOk C low ρ h fr cs bot w (normS ks s1) := by
  obtain ⟨ρ1, fr1, cs1, w1, r1, m, nx⟩ := g
  have hs : Sim C low ρ1 (normS ks s1).h w1 := m.sim.loosen rfl norm_get
  refine ⟨ρ1, fr1, cs1, w1, r1, ⟨normF_rel m.fr, ?_, hs⟩, ⟨nx.le, hs, nx.size, fun b hb hf => ?_, nx.env⟩⟩
  · exact normFs_rel m.cs
  · obtain ⟨e1, e2⟩ := nx.keep b hb hf
    refine ⟨e1, fun ⟨k, o, g, h1, h2, h3, h4⟩ => ?_⟩
    obtain ⟨o1, h5, _⟩ := norm_get k o h2
    exact e2 ⟨k, o1, g, h1, h5, h3, h4⟩

/-- So many steps. -/
def adv (C : Cfg) (n : Nat) : Nat → AS → Option AS
  | 0, s => some s
  | k + 1, s => match astep C (arun C n) s with
    | .go s => adv C n k s
    | _ => none

theorem adv_sound (ok : Ok C low) (oo : OrcOk C low) (n : Nat) : ∀ (k : Nat) (s s1 : AS), adv C n k s = some s1 → ∀ {ρ : Emb} {fr : Frame} {cs bot : List Frame} {w : World}, MR C low ρ s fr cs w → GoOk C low ρ s.h fr cs bot w s1 := by
  intro k
  induction k with
  | zero => intro s s1 h ρ fr cs bot w m; cases h; exact ⟨ρ, fr, cs, w, .refl _ _, m, Nx.refl m.sim⟩
  | succ k ih =>
    intro s s1 h ρ fr cs bot w m
    simp only [adv] at h
    cases hs : astep C (arun C n) s with
    | go s2 =>
      simp only [hs] at h
      obtain ⟨ρ1, fr1, cs1, w1, r1, r2, r3⟩ := (astep_sound (bot := bot) ok (arun_sound ok oo n) m).1 s2 hs
      obtain ⟨ρ2, fr2, cs2, w2, q1, q2, q3⟩ := ih s2 s1 h (bot := bot) r2
      exact ⟨ρ2, fr2, cs2, w2, r1.trans q1, q2, r3.trans q3⟩
    | done e h1 => simp only [hs] at h; cases h
    | pick a b => simp only [hs] at h; cases h
    | fail => simp only [hs] at h; cases h

theorem leg (ok : Ok C low) (oo : OrcOk C low) {n k : Nat} {ks : List Nat} {s s1 : AS} (h : (adv C n k s).map (normS ks) = some s1) {ρ0 : Emb} {h0 : AH} {fr : Frame} {cs bot : List Frame} {w : World} (g : GoOk C low ρ0 h0 fr cs bot w s) :
    GoOk C low ρ0 h0 fr cs bot w s1 := by
  simp only [Option.map_eq_some_iff] at h
  obtain ⟨s2, h2, rfl⟩ := h
  obtain ⟨ρ1, fr1, cs1, w1, r1, m, nx⟩ := g
  obtain ⟨ρ2, fr2, cs2, w2, q1, q2, q3⟩ := adv_sound ok oo n k s s2 h2 (bot := bot) m
  exact norm_sound ks ⟨ρ2, fr2, cs2, w2, r1.trans q1, q2, nx.trans q3⟩

/-- The last leg. -/
theorem last_leg (ok : Ok C low) (oo : OrcOk C low) {n : Nat} {s : AS} {v : Value} {h1 : AH} (h : arun C n s = some (.returned v, h1)) {ρ0 : Emb} {h0 : AH} {fr : Frame} {cs bot : List Frame} {w : World} (g : GoOk C low ρ0 h0 fr cs bot w s) :
    ∃ ρ1 w1 frL v', Steps C.P (lone fr (cs ++ bot) w) (lone frL bot w1) ∧ frL.leaving C.P w1 (.returned v') ∧ VR ρ1 v v' ∧ Nx C low ρ0 h0 w ρ1 h1 w1 := by
  obtain ⟨ρ1, fr1, cs1, w1, r1, m, nx⟩ := g
  obtain ⟨ρ2, w2, frL, e', q1, q2, q3, q4⟩ := (arun_sound ok oo n).1 s _ _ h ρ1 fr1 cs1 bot w1 m
  obtain ⟨v', rfl, hv⟩ := q3
  exact ⟨ρ2, w2, frL, v', r1.trans q1, q2, hv, nx.trans q4⟩
end
end Go.Ev
namespace Go.Ev

/-- The first place of a part, from a place on. -/
def idxF : Nat → List UInt8 → List UInt8 → Int
  | n, [], sub => cond sub.isEmpty (Int.ofNat n) (-1)
  | n, b :: l, sub => cond (sub.isPrefixOf (b :: l)) (Int.ofNat n) (idxF (n + 1) l sub)

/-- strings' Index, where its number is known. -/
def sumAt (idx : FuncId) (f : FuncId) (args : List Value) : Option Value :=
  cond (Nat.beq f idx)
    (match args with
     | [.string s, .string t] => cond (Nat.blt s.size 4294967281) (some (.int .i64 (idxF 0 s.data.toList t.data.toList))) none
     | _ => none) none
end Go.Ev
namespace Go.Ev
open Go

/-! ## Calls that were carried out elsewhere -/
structure OrE where
  f : FuncId
  args : List Value
  hs : List (Nat × AO)
  next : Nat
  res : End
  post : AH

def subH : List (Nat × AO) → AH → Bool
  | [], _ => true
  | (k, o) :: l, h => (match h.get k with | some a => eqO a o | none => false) && subH l h

def orcOf : List OrE → FuncId → Array Value → AH → Option (End × AH)
  | [], _, _, _ => none
  | e :: l, f, args, h => cond (Nat.beq e.next h.next && (Nat.beq e.f f && (eqL e.args args.toList && subH e.hs h))) (some (e.res, e.post)) (orcOf l f args h)

def OrE.pre (e : OrE) : AH := { t := trOf e.hs, next := e.next }

theorem subH_get {l : List (Nat × AO)} {h : AH} (hs : subH l h = true) : ∀ k o, (k, o) ∈ l → h.get k = some o := by
  induction l with
  | nil => intro k o hm; cases hm
  | cons x l ih =>
    obtain ⟨j, u⟩ := x
    simp only [subH, Bool.and_eq_true] at hs
    intro k o hm
    cases hm with
    | head =>
      have h1 := hs.1
      cases hg : h.get j with
      | none => rw [hg] at h1; cases h1
      | some a => rw [hg] at h1; rw [eqO_eq h1]
    | tail _ hm => exact ih hs.2 k o hm

def withOrc (C : Cfg) (o : FuncId → Array Value → AH → Option (End × AH)) : Cfg := { C with orc := o }

section
variable {C : Cfg} {o : FuncId → Array Value → AH → Option (End × AH)} {low : Nat → Option Obj} {ρ ρ1 : Emb} {h h1 : AH} {w w1 : World}
theorem Sim.orc (s : Sim (withOrc C o) low ρ h w) : Sim C low ρ h w := ⟨s.live, s.inj, s.fresh, s.bound, s.sep, s.glob, s.low, s.nb⟩
theorem Sim.orc' (s : Sim C low ρ h w) : Sim (withOrc C o) low ρ h w := ⟨s.live, s.inj, s.fresh, s.bound, s.sep, s.glob, s.low, s.nb⟩
theorem Nx.orc' (n : Nx C low ρ h w ρ1 h1 w1) : Nx (withOrc C o) low ρ h w ρ1 h1 w1 := ⟨n.le, n.sim.orc', n.size, n.keep, n.env⟩
theorem Ok.orc' (ok : Ok C low) : Ok (withOrc C o) low := ⟨ok.mixed, ok.enters, ok.ext1, ok.ext2, ok.ext3, ok.sum⟩

/-- A run from a heap that said less. -/
theorem Nx.less {h' : AH} (n : Nx C low ρ h' w ρ1 h1 w1) (hl : ∀ k o, h'.get k = some o → h.get k = some o) : Nx C low ρ h w ρ1 h1 w1 :=
  ⟨n.le, n.sim, n.size, fun b hb hf => n.keep b hb fun ⟨k, o, g, a, e, c⟩ => hf ⟨k, o, g, a, hl k o e, c⟩, n.env⟩

def EntOk (C : Cfg) (low : Nat → Option Obj) (e : OrE) : Prop :=
  ∀ ρ w args' bot, Sim C low ρ e.pre w → AR ρ e.args.toArray args' →
    ∃ ρ1 w1 frL e', Steps C.P (lone (Frame.enter C.P e.f args' .normal) bot w) (lone frL bot w1) ∧ frL.leaving C.P w1 e' ∧ EndR ρ1 e.res e' ∧ Nx C low ρ e.pre w ρ1 e.post w1

theorem orc_ok (l : List OrE) (he : ∀ e ∈ l, EntOk C low e) : OrcOk (withOrc C (orcOf l)) low := by
  intro f args h e h1 ho
  change orcOf l f args h = some (e, h1) at ho
  induction l with
  | nil => cases ho
  | cons x l ih =>
    unfold orcOf at ho
    cases hc : (Nat.beq x.next h.next && (Nat.beq x.f f && (eqL x.args args.toList && subH x.hs h))) with
    | false =>
      rw [hc] at ho
      intro ρ w args' bot s ha
      obtain ⟨ρ1, w1, frL, e', r1, r2, r3, r4⟩ := ih (fun e h => he e (.tail _ h)) ho ρ w args' bot s.orc.orc' ha
      exact ⟨ρ1, w1, frL, e', r1, r2, r3, ⟨r4.le, ⟨r4.sim.live, r4.sim.inj, r4.sim.fresh, r4.sim.bound, r4.sim.sep, r4.sim.glob, r4.sim.low, r4.sim.nb⟩, r4.size, r4.keep, r4.env⟩⟩
    | true =>
      rw [hc] at ho
      cases ho
      simp only [Bool.and_eq_true, nbeq] at hc
      obtain ⟨hn, hf, hargs, hsub⟩ := hc
      have hargs' : args = x.args.toArray := by rw [eqL_eq _ _ hargs]
      subst hf hargs'
      intro ρ w args' bot s ha
      have hget : ∀ k o, x.pre.get k = some o → h.get k = some o := fun k o hk => subH_get hsub k o (trOf_get hk)
      obtain ⟨ρ1, w1, frL, e', r1, r2, r3, r4⟩ := he x (.head _) ρ w args' bot (s.orc.weaken hn hget) ha
      exact ⟨ρ1, w1, frL, e', r1, r2, r3, (r4.less hget).orc'⟩

/-- An entry, by its legs. -/
theorem ent_ok (ok : Ok C low) (oo : OrcOk C low) {e : OrE} {s0 s1 : AS} (hf : enterF C e.f e.args.toArray .normal = some s0.fr) (hc : s0.cs = []) (hh : s0.h = e.pre)
    (hl : ∀ {ρ : Emb} {h : AH} {fr : Frame} {cs bot : List Frame} {w : World}, GoOk C low ρ h fr cs bot w s0 → GoOk C low ρ h fr cs bot w s1)
    (he : astep C (arun C 0) s1 = .done e.res s1.h) (hp : e.post = s1.h) : EntOk C low e := by
  intro ρ w args' bot s ha
  obtain ⟨fr0, cs0, h0⟩ := s0
  simp only at hf hc hh
  subst hc hh
  have m0 : MR C low ρ { fr := fr0, cs := [], h := e.pre } (Frame.enter C.P e.f args' .normal) [] w := ⟨enter_rel hf ha, .nil, s⟩
  obtain ⟨ρ1, fr1, cs1, w1, r1, m1, nx⟩ := hl (bot := bot) ⟨ρ, _, [], w, .refl _ _, m0, Nx.refl s⟩
  obtain ⟨rfl, ⟨e', q1, q2⟩, _⟩ := (astep_sound (bot := bot) ok (arun_sound ok oo 0) m1).2.2 _ _ he
  rw [hp]
  exact ⟨ρ1, w1, fr1, e', r1, q1, q2, nx⟩
end
end Go.Ev
