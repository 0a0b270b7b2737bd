/-
  The evaluator's operations are sound, part three, and its frames. No condition.
-/
import Derived.Test.YtecohkoekifeiaaGreatDoorEb
set_option linter.all false
namespace Go.Ev
open Go

section
variable {C : Cfg} {low : Nat → Option Obj} {ρ : Emb} {h : AH} {w : World}

theorem two_of {a : Array Value} {x y : Value} (h : a.toList = [x, y]) : a = #[x, y] := by cases a; simp_all
theorem one_of {a : Array Value} {x : Value} (h : a.toList = [x]) : a = #[x] := by cases a; simp_all
theorem AR.one {x : Value} {a' : Array Value} (h : AR ρ #[x] a') : ∃ x', a' = #[x'] ∧ VR ρ x x' := by
  have := h.list
  cases a' with | mk l =>
  simp only at this
  cases this with
  | cons hv ht => cases ht; exact ⟨_, rfl, hv⟩
theorem AR.two {x y : Value} {a' : Array Value} (h : AR ρ #[x, y] a') : ∃ x' y', a' = #[x', y'] ∧ VR ρ x x' ∧ VR ρ y y' := by
  have := h.list
  cases a' with | mk l =>
  simp only at this
  cases this with
  | cons hv ht =>
    cases ht with
    | cons hv2 ht2 => cases ht2; exact ⟨_, _, rfl, hv, hv2⟩

theorem loadBytes_run {P : Program} (b : Nat) (c : Array Value) (e : TypeId) (f : Nat × Nat) : ∀ (n off : Nat) (acc s : ByteArray), w.heap[b]? = some (.cells c e f) → off + n ≤ c.size →
    bytesOfCells ((c.toList.drop off).take n) acc = some s → (loadBytes ⟨b, off, none⟩ acc n).run P w = .ok s w := by
  intro n
  induction n with
  | zero => intro off acc s hb _ h; simp [bytesOfCells] at h; subst h; rfl
  | succ n ih =>
    intro off acc s hb hle h
    have hlt : off < c.toList.length := by simp; omega
    rw [List.drop_eq_getElem_cons hlt, List.take_succ_cons] at h
    cases hv : c.toList[off] with
    | int k m =>
      rw [hv] at h
      cases k <;> cases m <;> first
        | (simp [bytesOfCells] at h; done)
        | skip
      rename_i m
      simp only [bytesOfCells] at h
      have hcell : w.cell? ⟨b, off, none⟩ = some (.int .u8 (Int.ofNat m)) := by
        simp at hlt hv; simp [World.cell?, hb, hlt, hv]
      have := ih (off + 1) _ s hb (by omega) h
      have hadd : (⟨b, off, none⟩ : Addr).add 1 = ⟨b, off + 1, none⟩ := rfl
      rw [loadBytes, Sem.run_bind, run_load, hcell, Result.andThen_ok, hadd]
      exact this
    | _ => rw [hv] at h; simp [bytesOfCells] at h

theorem plain_bytes : ∀ (l : List Value) (acc s : ByteArray), bytesOfCells l acc = some s → plainL l = true := by
  intro l
  induction l with
  | nil => intro _ _ _; rfl
  | cons v l ih =>
    intro acc s h
    cases v with
    | int k n => cases k <;> cases n <;> first | (simp [bytesOfCells] at h; done) | (simp only [plainL, plainV, Bool.true_and]; exact ih _ _ h)
    | _ => simp [bytesOfCells] at h

theorem aunsafeString_sound (s : Sim C low ρ h w) {ats : Array TypeId} {ty : TypeId} {args args' : Array Value} {r : OpR} (ha : aunsafeString C h ats args = some r) (hr : AR ρ args args') :
    ∃ v h1, r = .val v h1 ∧ plainV v = true ∧ ∃ w1, (Builtin.unsafeString_ ats ty args').run C.P w = .ok v w1 ∧ Nx C low ρ h w ρ h1 w1 := by
  unfold aunsafeString at ha
  split at ha
  · rename_i pt a k n h0 hargs
    have hargs := two_of hargs
    subst hargs
    obtain ⟨x', y', rfl, hx, hy⟩ := hr.two
    have := hy.int_inv; subst this
    cases hx with
    | @ptr _ a' har =>
    split at ha
    · rename_i e hu
      split at ha
      · rename_i c e' o f sz hrow hsz
        have hcn := cond_none ha
        clear ha
        obtain ⟨hc, ha⟩ := hcn
        simp only [Bool.and_eq_true] at hc
        obtain ⟨⟨⟨⟨he, hs1⟩, hsp⟩, hb⟩, hn⟩ := hc
        have he := Nat.eq_of_beq_eq_true he
        have hs1 := Nat.eq_of_beq_eq_true hs1
        subst he hs1
        have hb := Nat.le_of_ble_eq_true hb
        have hn : n < 2 ^ 40 := by simpa using hn
        simp only [Option.bind_eq_some_iff, Option.map_eq_some_iff] at ha
        obtain ⟨cs, hl, st, hst, rfl⟩ := ha
        obtain ⟨cs', r1, r2, r3⟩ := loadN_sound s hl har
        obtain ⟨g, e1, e2, e3, e4, e5⟩ := har
        obtain ⟨g2, c2, fz, R⟩ := s.row (rowAt_get hrow)
        have hg : g2 = g := by have := R.emb; rw [e1] at this; exact (Option.some.inj this).symm
        subst hg
        have hlt : g2.o + c.size ≤ c2.size := R.lt
        have hcell := cellsOf_sizeT hsz
        have ha' : a' = ⟨g2.b, g2.o + a.off, none⟩ := by cases a'; simp_all
        have hle : a.off + (n + 1) ≤ c.size := by
          unfold loadN at hl
          rw [e4, hrow] at hl
          exact Nat.le_of_ble_eq_true (cond_some hl).1
        have hcs : cs = c.extract a.off (a.off + (n + 1)) := by
          unfold loadN at hl
          rw [e4, hrow] at hl
          exact (cond_some hl).2.symm
        have hbytes : (loadBytes ⟨g2.b, g2.o + a.off, none⟩ .empty (n + 1)).run C.P w = .ok st w := by
          refine loadBytes_run g2.b c2 _ fz (n + 1) _ _ _ R.heap (by omega) ?_
          have hpl := plain_bytes _ _ _ hst
          have : (c2.toList.drop (g2.o + a.off)).take (n + 1) = cs.toList := by
            apply List.ext_getElem?
            intro i
            rw [List.getElem?_take, List.getElem?_drop]
            by_cases hi : i < n + 1
            · rw [if_pos hi]
              have hic : i < cs.size := by rw [r3]; exact hi
              have h3 : cs[i]? = some cs[i] := by simp [hic]
              have h4 : c[a.off + i]? = some cs[i] := by
                rw [← h3, hcs, Array.getElem?_extract, if_pos (by omega)]
              obtain ⟨v', h5, h6⟩ := R.at h4
              have h7 : v' = cs[i] := h6.plain_eq ((plainL_iff _).1 hpl _ (by simp))
              subst h7
              rw [show g2.o + a.off + i = g2.o + (a.off + i) from by omega]
              simp only [Array.getElem?_toList]
              rw [h5, h3]
            · rw [if_neg hi]
              symm
              simp; omega
          rw [this]; exact hst
        refine ⟨_, _, rfl, rfl, w.freeze ⟨g2.b, g2.o + a.off, none⟩ (n + 1), ?_, ?_⟩
        · rw [ha']
          have hneg : ¬ (Int.ofNat (n + 1) < 0) := by simp; omega
          have hmax : ¬ (Int.ofNat (n + 1) > IntKind.i64.max) := by
            have : IntKind.i64.max = 9223372036854775807 := rfl
            rw [this]; simp; omega
          have hz : ¬ (Int.ofNat (n + 1) = 0) := by simp; omega
          have hvar : (variablesAt ⟨g2.b, g2.o + a.off, none⟩ e' (n + 1)).run C.P w = .ok true w := by
            have hsh : w.shape? g2.b = some (e', c2.size) := by simp [World.shape?, R.heap]
            have hli : liesAt C.P C.P.depth e' (c2.size / C.P.cellsOf e') (g2.o + a.off) e' (n + 1) = true := by
              obtain ⟨d, hd⟩ : ∃ d, C.P.depth = d + 1 := ⟨_, rfl⟩
              rw [hcell, hd]
              simp only [liesAt, Bool.or_eq_true]
              left
              rw [hd]
              simp only [Go.rowAt, hcell, Nat.one_ne_zero, if_false, Nat.div_one, Nat.mod_one, beq_self_eq_true, Bool.true_and, Bool.or_eq_true, Bool.and_eq_true, decide_eq_true_eq]
              left
              refine ⟨by omega, ?_⟩
              simp [sameLayout]
            simp [variablesAt, hsh, hli]
          have hint : (asInt (.int k (Int.ofNat (n + 1)))).run C.P w = .ok (Int.ofNat (n + 1)) w := rfl
          have hel : (elemOf pt).run C.P w = .ok e' w := by simp [elemOf, run_underlying hu]
          have hnat : (Int.ofNat (n + 1)).toNat = n + 1 := rfl
          show Sem.run C.P (asInt (.int k (Int.ofNat (n + 1))) >>= _) w = _
          rw [Sem.run_bind, hint, Result.andThen_ok]
          simp only [h0, hneg, hmax, hz, if_false, Sem.run_bind, hel, Result.andThen_ok, hnat, hvar, if_true, hbytes, run_freeze, Sem.run_pure]
        · refine Nx.put s (rowAt_get hrow) hb e1 (o' := .cells c2 e' (if fz.1 == fz.2 then (g2.o + a.off, g2.o + a.off + (n + 1)) else (min fz.1 (g2.o + a.off), max fz.2 (g2.o + a.off + (n + 1))))) (.cells (fun h => by cases h) R.hx R.ho R.hc) ?_ ⟨?_, ?_, ?_⟩
          · simp only [World.freeze, Nat.succ_ne_zero, if_false]
            apply Array.ext_getElem?
            intro j
            rw [Array.getElem?_modify]
            by_cases hj : g2.b = j
            · subst hj
              obtain ⟨h1, h2⟩ := Array.getElem?_eq_some_iff.1 R.heap
              simp [h1, h2]
            · rw [if_neg hj, Array.getElem?_setIfInBounds_ne hj]
          · simp [World.freeze]
          · simp [World.freeze]
          · simp [World.freeze]
      · cases ha
    · cases ha
  · cases ha

theorem aunsafeSliceData_sound (s : Sim C low ρ h w) {ats : Array TypeId} {ty : TypeId} {args args' : Array Value} {r : OpR} (ha : aunsafeSliceData C h args = some r) (hr : AR ρ args args') :
    ∃ v, r = .val v h ∧ ∃ v', (Builtin.unsafeSliceData_ ats ty args').run C.P w = .ok v' w ∧ VR ρ v v' := by
  unfold aunsafeSliceData at ha
  split at ha
  · rename_i l c hargs
    have hargs := one_of hargs
    subst hargs
    obtain ⟨x', rfl, hx⟩ := hr.one
    cases ha; cases hx
    exact ⟨_, rfl, .pointer none, rfl, .ptrN⟩
  · rename_i a l c hargs
    have hargs := one_of hargs
    subst hargs
    obtain ⟨x', rfl, hx⟩ := hr.one
    by_cases hcb : c < big
    · have h1 : Nat.blt c big = true := by simpa using hcb
      rw [h1] at ha
      simp only [cond_true] at ha
      obtain ⟨h2, ha⟩ := cond_some ha
      subst ha
      have h2 : 0 < c := by simpa using h2
      cases hx with
      | @slc _ a' _ _ har _ =>
        have h3 : c ≠ 0 := by omega
        refine ⟨_, rfl, .pointer (some a'), ?_, .ptr har⟩
        show Sem.run C.P (ite _ _ _) w = _
        rw [if_pos h3]; rfl
      | slcO => omega
    · have h1 : Nat.blt c big = false := Bool.eq_false_iff.2 (fun e => hcb (by simpa using e))
      rw [h1] at ha
      simp only [cond_false] at ha
      split at ha
      · rename_i cs e f hrow
        split at ha
        · rename_i sz hsz
          obtain ⟨h2, ha⟩ := cond_some ha
          subst ha
          simp only [Bool.and_eq_true] at h2
          have hoff := Nat.eq_of_beq_eq_true h2.1
          have hlt : a.off < cs.size := by simpa using h2.2
          cases hx with
          | slc _ h => exact absurd h hcb
          | @slcO _ a' _ _ c' g har hc hg hr' =>
            obtain ⟨g2, c2, fz, R⟩ := s.row (rowAt_get hrow)
            have hge : g2 = g := by have := R.emb; rw [hg] at this; exact (Option.some.inj this).symm
            subst hge
            have hcell := cellsOf_sizeT hsz
            have hle := (R.ho rfl).2
            simp only [hcell] at hle
            have hlt2 : (c - big) * sz < g2.r * sz := by omega
            have hlt3 : c - big < g2.r := Nat.lt_of_mul_lt_mul_right hlt2
            have h3 : c' ≠ 0 := by omega
            refine ⟨_, rfl, .pointer (some a'), ?_, .ptr har⟩
            show Sem.run C.P (ite _ _ _) w = _
            rw [if_pos h3]; rfl
        · cases ha
      · cases ha
  · cases ha
end
end Go.Ev
namespace Go.Ev
open Go

section
variable {C : Cfg} {low : Nat → Option Obj} {ρ : Emb} {h : AH} {w : World}

def putA (a : Array Value) (d : Option Tmp) (v : Value) : Array Value :=
  match d with
  | some d => a.setIfInBounds d v
  | none => a

theorem putT_rel {t t2 : Tr Value} {a : Array Value} {nt : Nat} (ht : TmR ρ t a) (hn : a.size = nt) {d : Option Tmp} {v v' : Value} (hp : putT t nt d (some v) = some t2) (hv : VR ρ v v') :
    TmR ρ t2 (putA a d v') ∧ (putA a d v').size = nt := by
  cases d with
  | none => simp only [putT, Option.some.injEq] at hp; subst hp; exact ⟨ht, hn⟩
  | some d =>
    simp only [putT] at hp
    obtain ⟨hd, hp⟩ := cond_some hp
    subst hp
    have hd : d < nt := by simpa using hd
    exact ⟨ht.set (by rw [hn]; exact hd) hv, by simpa [putA] using hn⟩

theorem putAll_rel {nt : Nat} : ∀ (l : List (Tmp × Value)) (m : List (Tmp × Value)) (t t2 : Tr Value) (a : Array Value), L2 (fun x y => y.1 = x.1 ∧ VR ρ x.2 y.2) l m → TmR ρ t a → a.size = nt →
    putAll nt l t = some t2 → TmR ρ t2 (m.foldl (fun tmps (x : Tmp × Value) => tmps.setIfInBounds x.1 x.2) a) ∧ (m.foldl (fun tmps (x : Tmp × Value) => tmps.setIfInBounds x.1 x.2) a).size = nt
  | [], _, t, t2, a, hl, ht, hn, hp => by cases hl; cases hp; exact ⟨ht, hn⟩
  | (d, v) :: l, _, t, t2, a, hl, ht, hn, hp => by
    cases hl with
    | @cons _ y _ m hh hl =>
      obtain ⟨d', v'⟩ := y
      obtain ⟨rfl, hv⟩ := hh
      simp only [putAll, Option.bind_eq_some_iff] at hp
      obtain ⟨t1, h1, h2⟩ := hp
      obtain ⟨r1, r2⟩ := putT_rel ht hn h1 hv
      exact putAll_rel l m t1 t2 _ hl r1 r2 h2

theorem zip_rel {ps : List Tmp} : ∀ {l m : List Value}, L2 (VR ρ) l m → L2 (fun (x y : Tmp × Value) => y.1 = x.1 ∧ VR ρ x.2 y.2) (ps.zip l) (ps.zip m) := by
  induction ps with
  | nil => intro l m _; exact .nil
  | cons p ps ih =>
    intro l m h
    cases h with
    | nil => exact .nil
    | cons hv ht => exact .cons ⟨rfl, hv⟩ (ih ht)

theorem atarget_sound (ok : Ok C low) (s : Sim C low ρ h w) {fn fn' : Fn} {cap cap' args args' : Array Value} {r : OpR} (ha : atarget C h fn cap args = some r) (hf : FnR ρ fn fn') (hc : AR ρ cap cap') (hr : AR ρ args args') :
    OpOk C low ρ h w (invoke (.fn fn' cap') args') r := by
  unfold atarget at ha
  split at ha
  · rename_i f
    have hf' : fn' = .func f := hf
    subst hf'
    have hinv : invoke (.fn (.func f) cap') args' = callFunc f (args' ++ cap') := rfl
    rw [hinv]
    split at ha
    · obtain ⟨hb, ha⟩ := cond_some ha
      subst ha
      exact ⟨args' ++ cap', ok.enters f hb _ _, hr.append hc⟩
    · rename_i he
      split at ha
      · rename_i b c e1 e2
        have e1 := two_of e1
        have e2 : cap = #[] := by cases cap; simp_all
        subst e1 e2
        have hcap : cap' = #[] := Array.eq_empty_of_size_eq_zero (by rw [← hc.1]; rfl)
        subst hcap
        obtain ⟨x', y', rfl, hx, hy⟩ := hr.two
        have := hx.string_inv; subst this
        have := hy.int_inv; subst this
        have hrun : ∀ v, (match (List.range b.size).find? fun i => b[i]! == UInt8.ofNat c with | some i => (pure (goInt i) : Sem Value) | none => pure (goInt (-1))).run C.P w = .ok v w →
            (callFunc f (#[.string b, .int .u8 (Int.ofNat c)] ++ #[])).run C.P w = .ok (.value v) w := by
          intro v hv
          rw [ok.ext1 f he]
          have : (Extern.BytealgIndexByte.indexByte #[.string b, .int .u8 (Int.ofNat c)]).run C.P w = .ok v w := by
            show Sem.run C.P (Extern.Bytes.bytesOf (.string b) >>= _) w = _
            rw [Sem.run_bind]
            show Sem.run C.P (Extern.Bytes.asByte (.int .u8 (Int.ofNat c)) >>= _) w = _
            rw [Sem.run_bind]
            exact hv
          show Result.andThen ((Extern.BytealgIndexByte.indexByte #[.string b, .int .u8 (Int.ofNat c)]).run C.P w) _ = _
          rw [this]; rfl
        cases hfd : (List.range b.size).find? fun i => b[i]! == UInt8.ofNat c with
        | some i =>
          rw [hfd] at ha; simp only at ha; cases ha
          exact val_same s (hrun _ (by rw [hfd]; rfl)) (VR.plain ρ _ rfl)
        | none =>
          rw [hfd] at ha; simp only at ha; cases ha
          exact val_same s (hrun _ (by rw [hfd]; rfl)) (VR.plain ρ _ rfl)
      · cases ha
    · rename_i he
      split at ha
      · rename_i x e1 e2
        have e1 := one_of e1
        have e2 : cap = #[] := by cases cap; simp_all
        subst e1 e2
        have hcap : cap' = #[] := Array.eq_empty_of_size_eq_zero (by rw [← hc.1]; rfl)
        subst hcap
        obtain ⟨x', rfl, hx⟩ := hr.one
        cases ha
        refine val_same s (v' := x') ?_ hx
        rw [ok.ext2 f he]; rfl
      · cases ha
    · rename_i he
      split at ha
      · rename_i t r2 e1 e2
        have e1 := one_of e1
        have e2 : cap = #[] := by cases cap; simp_all
        subst e1 e2
        have hcap : cap' = #[] := Array.eq_empty_of_size_eq_zero (by rw [← hc.1]; rfl)
        subst hcap
        obtain ⟨x', rfl, hx⟩ := hr.one
        split at ha
        · rename_i es clock hg
          cases ha
          cases hx with
          | iface _ hv =>
            cases hv with
            | @map _ g hgr =>
              obtain ⟨g2, o', h1, h2, h3⟩ := s.live _ _ hg
              rw [hgr] at h1; cases h1
              cases h3 with
              | @map _ es' _ hs hee =>
                have hnc : ∀ c e f, Obj.map es' clock ≠ .cells c e f := by intro _ _ _ h; cases h
                refine ⟨ρ.upd h.next ⟨w.heap.size, 0, 0⟩, { w with heap := w.heap.push (.map es' clock) }, .iface t (.map (some w.heap.size)), ?_, ?_, ?_⟩
                · rw [ok.ext3 f he]
                  have : (Extern.MapsClone.clone #[.iface t (.map (some g.b))]).run C.P w = .ok (.iface t (.map (some w.heap.size))) { w with heap := w.heap.push (.map es' clock) } := by
                    show Sem.run C.P (getObj g.b >>= _) w = _
                    rw [Sem.run_bind, run_getObj h2 hnc, Result.andThen_ok]
                    rfl
                  show Result.andThen ((Extern.MapsClone.clone #[.iface t (.map (some g.b))]).run C.P w) _ = _
                  rw [this]; rfl
                · exact Nx.new s 0 (.map clock hs fun i e e' i1 i2 => let ⟨a, b, c⟩ := hee i e e' i1 i2; ⟨a.mono (s.le_upd _), b.mono (s.le_upd _), c⟩) rfl ⟨rfl, rfl, rfl⟩
                · exact .iface t (.map (g := ⟨w.heap.size, 0, 0⟩) (Emb.upd_self _ _ _))
        · cases ha
      · cases ha
    · cases ha
  · rename_i l
    obtain ⟨g, hg, rfl⟩ := hf
    split at ha
    · rename_i st p fn t nt ps a b d hl
      obtain ⟨hsz, ha⟩ := cond_none ha
      simp only [Option.map_eq_some_iff] at ha
      obtain ⟨t2, hp, rfl⟩ := ha
      obtain ⟨g2, o', h1, h2, h3⟩ := s.live _ _ hl
      rw [hg] at h1; cases h1
      cases h3 with
      | @loop _ _ _ _ tmps _ _ _ _ _ gd ht hn hd =>
        have hsz := Nat.eq_of_beq_eq_true hsz
        obtain ⟨q1, q2⟩ := putAll_rel (ps.toList.zip args.toList) (ps.toList.zip args'.toList) t t2 tmps (zip_rel hr.list) ht hn hp
        refine ⟨g, _, hg, ?_, q1, q2⟩
        have hnc : ∀ c e f, Obj.loop { state := st, pending := p, fn, tmps, params := ps, assign := a, body := b, defers := gd.b } ≠ .cells c e f := by intro _ _ _ h; cases h
        have hne : ¬ (args'.size ≠ ps.size) := by rw [← hr.1]; simpa using hsz
        show (Instr.yield g.b args').run C.P w = _
        simp only [Instr.yield, Instr.getLoop, Sem.run_bind, run_getObj h2 hnc, Result.andThen_ok, Sem.run_pure, hne, if_false]
        congr 2
        rw [← Array.foldl_toList, Array.toList_zip]
    · cases ha
  · cases ha
end
end Go.Ev
namespace Go.Ev
open Go

section
variable {C : Cfg} {low : Nat → Option Obj} {ρ : Emb} {h : AH} {w : World}

theorem val_run {P : Program} {m : Sem Value} {v : Value} {w1 : World} (hm : m.run P w = .ok v w1) : (do pure (Next.value (← m)) : Sem Next).run P w = .ok (.value v) w1 := by simp [hm]
theorem skip_run {P : Program} {m : Sem Unit} {w1 : World} (hm : m.run P w = .ok () w1) : (do m; pure Next.skip : Sem Next).run P w = .ok .skip w1 := by simp [hm]

/-- A value that comes with no change. -/
theorem ok_val (s : Sim C low ρ h w) {m : Sem Value} {n : Sem Next} {v v' : Value} (hn : n = (do pure (Next.value (← m)))) (hm : m.run C.P w = .ok v' w) (hv : VR ρ v v') : OpOk C low ρ h w n (.val v h) := by
  subst hn; exact ⟨ρ, w, v', val_run hm, Nx.refl s, hv⟩
theorem ok_nx {m : Sem Value} {n : Sem Next} {ρ1 : Emb} {h1 : AH} {w1 : World} {v v' : Value} (hn : n = (do pure (Next.value (← m)))) (hm : m.run C.P w = .ok v' w1) (nx : Nx C low ρ h w ρ1 h1 w1) (hv : VR ρ1 v v') :
    OpOk C low ρ h w n (.val v h1) := by
  subst hn; exact ⟨ρ1, w1, v', val_run hm, nx, hv⟩

theorem acall_sound (ok : Ok C low) (s : Sim C low ρ h w) {ev : Ev} {ev' : Operand → Value} {o : Oper} {c : Call} {r : OpR} (he : EvR ρ ev ev') (hop : o.op = .call c) (ha : acall C ev h o c = some r) :
    OpOk C low ρ h w (execOp ev' o) r := by
  have hns : ∀ cs b, o.op ≠ .select cs b := by intro _ _ e; rw [hop] at e; cases e
  unfold acall at ha
  cases hargs : evArr ev c.args with
  | none => simp [hargs] at ha
  | some args =>
    have hr := evArr_rel he hargs
    simp only [hargs] at ha
    cases hcal : c.callee with
    | invoke a b => simp [hcal] at ha
    | value f =>
      simp only [hcal] at ha
      cases hf : ev f with
      | none => simp [hf] at ha
      | some fv =>
        cases fv <;> simp only [hf] at ha <;> try (cases ha; done)
        rename_i fn first cap
        have hfv := he f _ hf
        cases hev : ev' f <;> rw [hev] at hfv <;> cases hfv
        rename_i fn' first' cap' hfn sa hfa sb hcb
        have hex : execOp ev' o = invoke (.fn fn' cap') (first' ++ c.args.map ev') := by
          simp [execOp, hop, resolve, hcal, hev, Deferred.ofValue]
        rw [hex]
        exact atarget_sound ok s ha hfn ⟨sb, hcb⟩ (AR.append ⟨sa, hfa⟩ hr)
    | builtin b =>
      simp only [hcal] at ha
      have hex : execOp ev' o = builtin b c.argTypes o.type (c.args.map fun | .const _ => true | _ => false) (c.args.map ev') := by
        simp [execOp, hop, resolve, hcal, invoke]
        rfl
      cases b <;> simp only at ha <;> first
        | exact aplain_sound s he ha hns
        | (cases ha; rw [hex]; rfl)
        | (obtain ⟨v, h1, rfl, ρ1, w1, v', run, nx, hv⟩ := aappend_sound (ty := o.type) s ha hr; exact ok_nx hex run nx hv)
        | (simp only [Option.map_eq_some_iff] at ha; obtain ⟨v, hv, rfl⟩ := ha
           obtain ⟨run, hp⟩ := acap_sound (w := w) (ty := o.type) hv hr
           exact ok_val s hex run (VR.plain ρ v hp))
        | (obtain ⟨v, h1, rfl, hp, w1, run, nx⟩ := acopy_sound (ty := o.type) s ha hr; exact ok_nx hex run nx (VR.plain ρ v hp))
        | (simp only [Option.map_eq_some_iff] at ha; obtain ⟨h1, hc, rfl⟩ := ha
           obtain ⟨w1, run, nx⟩ := aclear_sound (ty := o.type) s hc hr
           exact ok_nx hex run nx (VR.plain ρ _ rfl))
        | (simp only [Option.map_eq_some_iff] at ha; obtain ⟨h1, hc, rfl⟩ := ha
           obtain ⟨w1, run, nx⟩ := adelete_sound (ty := o.type) s hc hr
           exact ok_nx hex run nx (VR.plain ρ _ rfl))
        | (obtain ⟨v, rfl, v', run, hv⟩ := aunsafeSliceData_sound (ats := c.argTypes) (ty := o.type) s ha hr; exact ok_val s hex run hv)
        | (split at ha
           · rename_i v hv; cases ha
             obtain ⟨run, hp⟩ := alen_sound (ty := o.type) s hv hr
             exact ok_val s hex run (VR.plain ρ v hp)
           · exact aplain_sound s he ha hns)
        | (split at ha
           · rename_i r2 hv; cases ha
             obtain ⟨v, h1, rfl, hp, w1, run, nx⟩ := aunsafeString_sound (ty := o.type) s hv hr
             exact ok_nx hex run nx (VR.plain ρ v hp)
           · exact aplain_sound s he ha hns)
        | (split at ha
           · rename_i t v hv; cases ha
             obtain ⟨v', h1, h2⟩ := hr.get hv
             cases h2 with
             | @iface _ _ v'' h3 =>
               refine ⟨ρ, w, .iface t v'', ?_, Nx.refl s, .iface t h3⟩
               rw [hex]
               show Sem.run C.P (do pure (Next.value (← Instr.panic ((c.args.map ev').getD 0 .nilIface)))) w = _
               have : (c.args.map ev').getD 0 .nilIface = .iface t v'' := by rw [Array.getD_eq_getD_getElem?, h1]; rfl
               rw [this]; rfl
           · cases ha)

theorem eqRun {t : TypeId} {a a' b b' : Value} {x y : Operand} {r : Bool} (ha : aeq C t a b = some r) (hx : VR ρ a a') (hy : VR ρ b b') :
    (do eqGuard .eql t x y a' b'; binOp .eql t a' b' : Sem Value).run C.P w = .ok (.bool r) w ∧ (do eqGuard .neq t x y a' b'; binOp .neq t a' b' : Sem Value).run C.P w = .ok (.bool !r) w := by
  have hq := aeq_sound (w := w) ha hx hy
  unfold aeq at ha
  split at ha <;> first
    | (cases ha; done)
    | (cases hx <;> cases hy <;> simp [eqGuard, binOp, hq])

theorem range_sound (s : Sim C low ρ h w) {t : TypeId} {x x' : Value} {r : OpR}
    (ha : (match some x, C.P.underlying t with
      | some (.string b), some .string => aborn h (.strIter b 0)
      | some (.map none), some (.map _ _) => aborn h (.mapIter none 0 #[] 0)
      | some (.map (some m)), some (.map _ _) => (match h.get m with | some (.map _ clock) => aborn h (.mapIter (some m) clock #[] clock) | _ => none)
      | _, _ => none) = some r) (hx : VR ρ x x') :
    ∃ ao ob, r = .val (ptr h.next) (h.new ao) ∧ (Instr.range t x').run C.P w = .ok (.pointer (some ⟨w.heap.size, 0, none⟩)) { w with heap := w.heap.push ob } ∧
      Nx C low ρ h w (ρ.upd h.next ⟨w.heap.size, 0, 0⟩) (h.new ao) { w with heap := w.heap.push ob } := by
  split at ha
  · rename_i b hb hu
    cases hb; cases ha; cases hx
    exact ⟨_, .stringIter b 0, rfl, by simp [Instr.range, run_underlying hu], Nx.new s 0 (.str b 0 rfl) rfl ⟨rfl, rfl, rfl⟩⟩
  · rename_i kt et hb hu
    cases hb; cases ha; cases hx
    exact ⟨_, .mapIter none 0 #[] 0, rfl, by simp [Instr.range, run_underlying hu], Nx.new s 0 (.iterN 0 #[] 0 rfl) rfl ⟨rfl, rfl, rfl⟩⟩
  · rename_i m kt et hb hu
    cases hb
    split at ha
    · rename_i es clock hg
      cases ha
      cases hx with
      | @map _ g hgr =>
        obtain ⟨g2, o', h1, h2, h3⟩ := s.live _ _ hg
        rw [hgr] at h1; cases h1
        cases h3 with
        | @map _ es' _ hs hee =>
          have hnc : ∀ c e f, Obj.map es' clock ≠ .cells c e f := by intro _ _ _ h; cases h
          exact ⟨_, .mapIter (some g.b) clock #[] clock, rfl, by simp [Instr.range, run_underlying hu, run_getObj h2 hnc],
            Nx.new s 0 (.iter (s.le_upd _ _ _ hgr) clock #[] clock rfl) rfl ⟨rfl, rfl, rfl⟩⟩
    · cases ha
  · cases ha

theorem makeSlice_sound (s : Sim C low ρ h w) {t e : TypeId} {l c : Nat} {kl kc : IntKind} {sz : Nat} {z : Value} {i : TypeInfo} (hu : C.P.underlying t = some (.slice e)) (hs : sizeT C.P e = some sz) (hz : zeroOf C.P e = some z)
    (hi : C.P.info? e = some i) (hlc : l ≤ c) (hb : c * (i.bytes + 1) ≤ 2 ^ 40) (hpos : 0 < c * sz) :
    ∃ w1, (Instr.makeSlice t (.int kl (Int.ofNat l)) (.int kc (Int.ofNat c))).run C.P w = .ok (.slice (some ⟨w.heap.size, 0, none⟩) l c) w1 ∧
      Nx C low ρ h w (ρ.upd h.next ⟨w.heap.size, 0, 0⟩) (newRow h e ((Array.range (c * sz)).map (z.cells[· % z.cells.size]!)) false) w1 := by
  obtain ⟨_, _, _, hp⟩ := zeroOf_some hz
  refine ⟨{ w with heap := w.heap.push (.cells ((Array.range (c * sz)).map (z.cells[· % z.cells.size]!)) e) }, ?_, newRow_exact s (AR.refl_plain (plainA_zeros (plainA_cells hp) _)) e rfl ⟨rfl, rfl, rfl⟩⟩
  have hc40 : c ≤ 2 ^ 40 := Nat.le_trans (Nat.le_mul_of_pos_right c (Nat.succ_pos _)) hb
  have hwl : IntKind.i64.wrap (Int.ofNat l) = l := wrap_small (l : Int) (by omega) (by omega)
  have hwc : IntKind.i64.wrap (Int.ofNat c) = c := wrap_small (c : Int) (by omega) (by omega)
  have hb2 : ((c * i.bytes : Nat) : Int) ≤ 2 ^ 40 := by
    have : c * i.bytes ≤ c * (i.bytes + 1) := Nat.mul_le_mul_left _ (Nat.le_succ _)
    exact_mod_cast Nat.le_trans this hb
  have htl : ((decide ((c : Int) < 0) || decide ((i.bytes : Int) * (c : Int) > 2 ^ 48)) || decide ((l : Int) < 0) || decide ((l : Int) > (c : Int))) = false := by
    have h1 : ¬ ((c : Int) < 0) := by omega
    have h2 : ¬ ((i.bytes : Int) * (c : Int) > 2 ^ 48) := by rw [Int.mul_comm]; push_cast at hb2; omega
    have h3 : ¬ ((l : Int) < 0) := by omega
    have h4 : ¬ ((l : Int) > (c : Int)) := by omega
    simp [h1, h2, h3, h4]; omega
  have hn0 : ¬ c * sz = 0 := by omega
  simp only [Instr.makeSlice, Sem.run_bind, run_underlying hu, Result.andThen_ok, asInt, asIntOf, Sem.run_pure, run_typeInfo hi, hwl, hwc, htl, Bool.false_eq_true, if_false, run_askRoom, Int.toNat_natCast, run_sizeOf hs, hn0, run_zeroValue hz, Go.newRow, run_newObj]

theorem ovr_of {ev : Ev} {ev' : Operand → Value} (he : EvR ρ ev ev') {y : Option Operand} {x : Option Value} (hx : (match y with | none => some none | some y => (ev y).map some) = some x) : OVR ρ x (y.map ev') := by
  cases y with
  | none => cases hx; rfl
  | some y =>
    simp only [Option.map_eq_some_iff] at hx
    obtain ⟨v, hv, rfl⟩ := hx
    exact ⟨ev' y, rfl, he y v hv⟩

theorem aop_sound (ok : Ok C low) (s : Sim C low ρ h w) {ev : Ev} {ev' : Operand → Value} {o : Oper} {r : OpR} (he : EvR ρ ev ev') (ha : aop C ev h o = some r) :
    OpOk C low ρ h w (execOp ev' o) r := by
  unfold aop at ha
  have nosel : ∀ {q : Op}, o.op = q → (∀ cs b, q ≠ .select cs b) → ∀ cs b, o.op ≠ .select cs b := by intro q e hq cs b e2; rw [e] at e2; exact hq cs b e2
  cases hop : o.op <;> simp only [hop] at ha <;> try (cases ha; done)
  case move x =>
    simp only [Option.map_eq_some_iff] at ha; obtain ⟨v, hv, rfl⟩ := ha
    exact val_same s (v' := ev' x) (by simp [execOp, hop]) (he x v hv)
  case assign x =>
    simp only [Option.map_eq_some_iff] at ha; obtain ⟨v, hv, rfl⟩ := ha
    exact val_same s (v' := ev' x) (by simp [execOp, hop]) (he x v hv)
  case pick c a b =>
    split at ha
    · rename_i hc
      have := (he c _ hc).bool_inv
      simp only [Option.map_eq_some_iff] at ha; obtain ⟨v, hv, rfl⟩ := ha
      exact val_same s (v' := ev' a) (by simp [execOp, hop, this, asBool]) (he a v hv)
    · rename_i hc
      have := (he c _ hc).bool_inv
      simp only [Option.map_eq_some_iff] at ha; obtain ⟨v, hv, rfl⟩ := ha
      exact val_same s (v' := ev' b) (by simp [execOp, hop, this, asBool]) (he b v hv)
    · cases ha
  case alloc t =>
    simp only [Option.bind_eq_some_iff] at ha; obtain ⟨z, hz, ha⟩ := ha
    cases ha
    obtain ⟨w1, run, nx⟩ := alloc_sound s hz
    exact ok_nx (by simp [execOp, hop]) run nx (ptr_upd _ _ _)
  case box t x =>
    simp only [Option.bind_eq_some_iff] at ha; obtain ⟨v, hv, ha⟩ := ha
    cases ha
    obtain ⟨w1, run, nx⟩ := box_sound s (t := t) (he x v hv)
    exact ok_nx (by simp [execOp, hop]) run nx (ptr_upd _ _ _)
  case build t ps =>
    split at ha
    · rename_i vs z hvs hz
      obtain ⟨b1, b2⟩ := build_sound s he hvs hz
      split at ha
      · rename_i fs hu
        split at ha
        · rename_i pl hpl
          simp only [Option.map_eq_some_iff] at ha; obtain ⟨cs, hf, rfl⟩ := ha
          obtain ⟨v', run, hv⟩ := b1 fs pl cs hu hpl hf
          exact ok_val s (by simp [execOp, hop]) run hv
        · cases ha
      · rename_i n e hu
        simp only [Option.bind_eq_some_iff, Option.map_eq_some_iff] at ha; obtain ⟨sz, hs, cs, hf, rfl⟩ := ha
        obtain ⟨v', run, hv⟩ := b2 n e sz cs hu hs hf
        exact ok_val s (by simp [execOp, hop]) run hv
      · cases ha
    · cases ha
  case buildSlice t n ps =>
    split at ha
    · rename_i vs e hvs hu
      split at ha
      · rename_i sz z hs hz
        obtain ⟨hc, ha⟩ := cond_none ha
        simp only [Bool.and_eq_true] at hc
        simp only [Option.map_eq_some_iff] at ha; obtain ⟨cs, hf, rfl⟩ := ha
        obtain ⟨w1, run, nx, hv⟩ := buildSlice_sound s he hvs hu hs hz (Nat.le_of_ble_eq_true hc.1) (by simpa using hc.2) hf
        exact ok_nx (by simp [execOp, hop]) run nx hv
      · cases ha
    · cases ha
  case insert t m k x =>
    split at ha
    · rename_i a b c h1 h2 h3
      simp only [Option.map_eq_some_iff] at ha; obtain ⟨hh, hu, rfl⟩ := ha
      obtain ⟨w1, run, nx⟩ := amapUpdate_sound s hu (he m _ h1) (he k _ h2) (he x _ h3)
      exact ⟨ρ, w1, by simp [execOp, hop, run], nx⟩
    · cases ha
  case mapUpdate t m k x =>
    split at ha
    · rename_i a b c h1 h2 h3
      simp only [Option.map_eq_some_iff] at ha; obtain ⟨hh, hu, rfl⟩ := ha
      obtain ⟨w1, run, nx⟩ := amapUpdate_sound s hu (he m _ h1) (he k _ h2) (he x _ h3)
      exact ⟨ρ, w1, by simp [execOp, hop, run], nx⟩
    · cases ha
  case load t a =>
    simp only [Option.bind_eq_some_iff, Option.map_eq_some_iff] at ha; obtain ⟨p, hp, v, hv, rfl⟩ := ha
    obtain ⟨v', run, _, hr⟩ := aload_sound s hv (he a p hp)
    exact ok_val s (by simp [execOp, hop]) run hr
  case store t a x =>
    split at ha
    · rename_i p v hp hv
      simp only [Option.map_eq_some_iff] at ha; obtain ⟨hh, hu, rfl⟩ := ha
      obtain ⟨w1, run, nx⟩ := astore_sound s hu (he a p hp) (he x v hv)
      exact ⟨ρ, w1, by simp [execOp, hop, run], nx⟩
    · cases ha
  case nilCheck x =>
    have arm : ∀ (v v' : Value), ev x = some v → ev' x = v' → r = .val v h → (execOp ev' o).run C.P w = .ok (.value v') w → OpOk C low ρ h w (execOp ev' o) r := by
      intro v v' h1 h2 h3 h4
      subst h3
      exact val_same s h4 (h2 ▸ he x v h1)
    split at ha <;> try (cases ha; done)
    · rename_i hx
      have hv := he x _ hx
      cases hev : ev' x <;> rw [hev] at hv <;> cases hv
      exact arm _ _ hx hev (by cases ha; rfl) (by simp [execOp, hop, hev])
    · rename_i hx
      have hv := he x _ hx
      cases hev : ev' x <;> rw [hev] at hv <;> cases hv
      rename_i f' a' b' hf _ _ _ _
      have : f' = .func _ := hf
      subst this
      exact arm _ _ hx hev (by cases ha; rfl) (by simp [execOp, hop, hev])
    · rename_i hx
      have hv := he x _ hx
      cases hev : ev' x <;> rw [hev] at hv <;> cases hv
      rename_i f' a' b' hf _ _ _ _
      obtain ⟨g, _, rfl⟩ := hf
      exact arm _ _ hx hev (by cases ha; rfl) (by simp [execOp, hop, hev])
    · rename_i hx
      have hv := he x _ hx
      cases hev : ev' x <;> rw [hev] at hv <;> cases hv <;> exact arm _ _ hx hev (by cases ha; rfl) (by simp [execOp, hop, hev])
    · rename_i hx
      have hv := he x _ hx
      cases hev : ev' x <;> rw [hev] at hv <;> cases hv <;> exact arm _ _ hx hev (by cases ha; rfl) (by simp [execOp, hop, hev])
  case binOp op t x y yt =>
    split at ha
    · rename_i r2 hp; cases ha; exact aplain_sound s he hp (nosel hop (by intro _ _ e; cases e))
    · split at ha
      · rename_i a b h1 h2
        simp only [Option.map_eq_some_iff] at ha; obtain ⟨q, hq, rfl⟩ := ha
        exact ok_val s (by simp [execOp, hop]) (eqRun (x := x) (y := y) hq (he x a h1) (he y b h2)).1 (.bool _)
      · rename_i a b h1 h2
        simp only [Option.map_eq_some_iff] at ha; obtain ⟨q, hq, rfl⟩ := ha
        exact ok_val s (by simp [execOp, hop]) (eqRun (x := x) (y := y) hq (he x a h1) (he y b h2)).2 (.bool _)
      · cases ha
  case unOp op t x => exact aplain_sound s he ha (nosel hop (by intro _ _ e; cases e))
  case convert s1 d x =>
    simp only [Option.bind_eq_some_iff] at ha; obtain ⟨v, hv, ha⟩ := ha
    split at ha
    · rename_i r2 hc; cases ha
      obtain ⟨v2, h1, rfl, ρ1, w1, v', run, nx, hr⟩ := aconvert_sound s hc (he x v hv)
      exact ok_nx (by simp [execOp, hop]) run nx hr
    · exact aplain_sound s he ha (nosel hop (by intro _ _ e; cases e))
  case makeInterface t x =>
    split at ha
    · cases ha
    · rename_i v d hd h1 h2
      cases ha
      refine ok_val s (m := Instr.makeInterface t (ev' x)) (by simp [execOp, hop]) (v' := .iface t (ev' x)) ?_ (.iface t (he x v h1))
      simp only [Instr.makeInterface, Sem.run_bind, run_underlying h2, Result.andThen_ok]
      cases d <;> first | rfl | exact absurd rfl (hd _)
    · cases ha
  case makeFunc fn a b =>
    cases fn <;> simp only at ha <;> try (cases ha; done)
    rename_i f
    split at ha
    · rename_i va vb h1 h2
      cases ha
      have r1 := evArr_rel he h1
      have r2 := evArr_rel he h2
      exact val_same s (v' := .func (.func f) (a.map ev') (b.map ev')) (by simp [execOp, hop, Instr.makeFunc]) (.func rfl r1.1 r1.2 r2.1 r2.2)
    · cases ha
  case makeMap t rs =>
    have main : ∀ (m : Sem Value), execOp ev' o = (do pure (Next.value (← m))) → m.run C.P w = .ok (.map (some w.heap.size)) { w with heap := w.heap.push (.map #[] 0) } →
        OpOk C low ρ h w (execOp ev' o) (.val (.map (some h.next)) (h.new (.map #[] 0))) := by
      intro m hm run
      exact ok_nx hm run (Nx.new s 0 (.map 0 rfl (by intro i e e' h1; simp at h1)) rfl ⟨rfl, rfl, rfl⟩) (.map (g := ⟨w.heap.size, 0, 0⟩) (Emb.upd_self _ _ _))
    cases rs with
    | none =>
      simp only at ha; cases ha
      exact main (Instr.makeMap t none) (by simp [execOp, hop]) (by simp [Instr.makeMap])
    | some rr =>
      simp only at ha
      split at ha
      · rename_i kt et k n hu hr
        cases ha
        have := (he rr _ hr).int_inv
        exact main (Instr.makeMap t (some (ev' rr))) (by simp [execOp, hop]) (by simp [Instr.makeMap, run_underlying hu, this, asInt, asIntOf])
      · cases ha
  case makeSlice t l c =>
    split at ha
    · rename_i e n m hu hl hc
      split at ha
      · rename_i sz z i hs hz hi
        obtain ⟨hcc, ha⟩ := cond_some ha
        subst ha
        simp only [Bool.and_eq_true] at hcc
        simp only [Option.bind_eq_some_iff] at hl hc
        obtain ⟨vl, hl1, hl2⟩ := hl
        obtain ⟨vc, hc1, hc2⟩ := hc
        obtain ⟨kl, rfl⟩ := nat?_some hl2
        obtain ⟨kc, rfl⟩ := nat?_some hc2
        have e1 := (he l _ hl1).int_inv
        have e2 := (he c _ hc1).int_inv
        have hb := Nat.le_of_ble_eq_true hcc.1.2
        obtain ⟨w1, run, nx⟩ := makeSlice_sound s hu hs hz hi (kl := kl) (kc := kc) (Nat.le_of_ble_eq_true hcc.1.1) hb (by simpa using hcc.2)
        have hm40 : m ≤ 2 ^ 40 := Nat.le_trans (Nat.le_mul_of_pos_right m (Nat.succ_pos _)) hb
        exact ok_nx (m := Instr.makeSlice t (ev' l) (ev' c)) (by simp [execOp, hop]) (by rw [e1, e2]; exact run) nx (slc_upd _ _ _ _ _ (by unfold big; omega))
      · cases ha
    · cases ha
  case slice t x lo hi mx =>
    split at ha
    · cases ha
    · rename_i v hv
      split at ha
      · rename_i a b c h1 h2 h3
        split at ha
        · rename_i r2 hs
          cases ha
          obtain ⟨v', run, hr⟩ := aslice_sound s hs (he x v hv) (ovr_of he h1) (ovr_of he h2) (ovr_of he h3)
          exact ok_val s (by simp [execOp, hop]) run hr
        · exact aplain_sound s he ha (nosel hop (by intro _ _ e; cases e))
      · cases ha
  case fieldAddr t x f =>
    simp only [Option.bind_eq_some_iff, Option.map_eq_some_iff] at ha; obtain ⟨p, hp, v, hv, rfl⟩ := ha
    obtain ⟨v', run, hr⟩ := afieldAddr_sound (w := w) hv (he x p hp)
    exact ok_val s (by simp [execOp, hop]) run hr
  case field t x f =>
    simp only [Option.bind_eq_some_iff, Option.map_eq_some_iff] at ha; obtain ⟨p, hp, v, hv, rfl⟩ := ha
    obtain ⟨v', run, hr⟩ := afield_sound (w := w) hv (he x p hp)
    exact ok_val s (by simp [execOp, hop]) run hr
  case indexAddr t x i =>
    split at ha
    · rename_i a b h1 h2
      simp only [Option.map_eq_some_iff] at ha; obtain ⟨v, hv, rfl⟩ := ha
      obtain ⟨v', run, hr⟩ := aindexAddr_sound (w := w) hv (he x a h1) (he i b h2)
      exact ok_val s (by simp [execOp, hop]) run hr
    · cases ha
  case index t x i =>
    split at ha
    · rename_i cs n len e h1 h2 hu
      obtain ⟨hlt, ha⟩ := cond_none ha
      have hlt : n < len := by simpa using hlt
      simp only [Option.bind_eq_some_iff, Option.map_eq_some_iff] at ha; obtain ⟨sz, hs, v, hv, rfl⟩ := ha
      simp only [Option.bind_eq_some_iff] at h2
      obtain ⟨iv, hi1, hi2⟩ := h2
      obtain ⟨k, rfl⟩ := nat?_some hi2
      have e1 := (he i _ hi1).int_inv
      have hr := he x _ h1
      cases hev : ev' x <;> rw [hev] at hr <;> cases hr
      rename_i cs' sa hh
      obtain ⟨v', run, hvv⟩ := apart_sound (w := w) hv ⟨sa, hh⟩
      have hlt1 : (n : Int) < (len : Int) := by omega
      exact ok_val s (m := Instr.index t (.agg cs') (.int k (Int.ofNat n))) (by simp [execOp, hop, hev, e1]) (by simp [Instr.index, asIntOf, run_underlying hu, hlt1, run_sizeOf hs, run]; intro hge; omega) hvv
    · exact aplain_sound s he ha (nosel hop (by intro _ _ e; cases e))
  case lookup t x k okk =>
    split at ha
    · rename_i a b h1 h2
      simp only [Option.map_eq_some_iff] at ha; obtain ⟨v, hv, rfl⟩ := ha
      obtain ⟨v', run, hr⟩ := alookup_sound s hv (he x a h1) (he k b h2)
      exact ok_val s (by simp [execOp, hop]) run hr
    · cases ha
  case range t x =>
    cases hx : ev x with
    | none => rw [hx] at ha; simp at ha
    | some v =>
      rw [hx] at ha
      obtain ⟨ao, ob, rfl, run, nx⟩ := range_sound s ha (he x v hx)
      exact ok_nx (m := Instr.range t (ev' x)) (by simp [execOp, hop]) run nx (ptr_upd _ _ _)
  case next it isS =>
    simp only [Option.bind_eq_some_iff] at ha; obtain ⟨v, hv, ha⟩ := ha
    rcases anext_sound (ty := o.type) s ha (he it v hv) with ⟨v2, h1, rfl, ρ1, w1, v', run, nx, hr⟩ | ⟨n, f, rfl, i, hi, hall⟩
    · exact ok_nx (by simp [execOp, hop]) run nx hr
    · refine ⟨i, hi, fun v h1 hf => ?_⟩
      obtain ⟨ρ1, w1, v', run, nx, hr⟩ := hall v h1 hf
      exact ⟨ρ1, w1, v', by simp [execOp, hop, run], nx, hr⟩
  case entry it =>
    simp only [Option.bind_eq_some_iff, Option.map_eq_some_iff] at ha; obtain ⟨p, hp, v, hv, rfl⟩ := ha
    obtain ⟨v', run, hr⟩ := aentry_sound s hv (he it p hp)
    exact ok_val s (by simp [execOp, hop]) run hr
  case extract t i =>
    split at ha
    · rename_i vs hv
      simp only [Option.map_eq_some_iff] at ha; obtain ⟨v, hvi, rfl⟩ := ha
      have hr := he t _ hv
      cases hev : ev' t <;> rw [hev] at hr <;> cases hr
      rename_i vs' sa hh
      obtain ⟨v', h1, h2⟩ := AR.get ⟨sa, hh⟩ hvi
      exact val_same s (v' := v') (by simp [execOp, hop, hev, Instr.extract, h1]) h2
    · cases ha
  case typeAssert x xt t okk =>
    split at ha
    · rename_i r2 hp; cases ha; exact aplain_sound s he hp (nosel hop (by intro _ _ e; cases e))
    · split at ha
      · cases ha
      · rename_i u v d hd h1 h2
        obtain ⟨hut, ha⟩ := cond_some ha
        have hut := Nat.eq_of_beq_eq_true hut
        subst ha
        have hr := he x _ h1
        cases hev : ev' x <;> rw [hev] at hr <;> cases hr
        rename_i v' hvv
        have hres : VR ρ (if okk then .tuple #[v, .bool true] else v) (if okk then .tuple #[v', .bool true] else v') := by
          cases okk
          · exact hvv
          · have := (AR.single hvv).append (AR.single (VR.bool (ρ := ρ) true)); exact .tuple this.1 this.2
        refine ok_val s (m := Instr.typeAssert (.iface u v') xt t okk) (by simp [execOp, hop, hev]) ?_ hres
        simp only [Instr.typeAssert, Sem.run_bind, run_underlying h2, Result.andThen_ok]
        cases d <;> first
          | exact absurd rfl (hd _)
          | (simp [hut])
      · cases ha
  case call c => exact acall_sound ok s he hop ha
  case defer c =>
    split at ha
    · rename_i args f hargs hcal
      split at ha
      · rename_i fn first cap hf
        cases ha
        have hr := he f _ hf
        cases hev : ev' f <;> rw [hev] at hr <;> cases hr
        rename_i fn' first' cap' hfn sa hfa sb hcb
        have har := evArr_rel he hargs
        exact ⟨{ target := .fn fn' cap', args := first' ++ c.args.map ev' }, by simp [execOp, hop, resolve, hcal, hev, Deferred.ofValue], fn', cap', rfl, hfn, ⟨sb, hcb⟩, AR.append ⟨sa, hfa⟩ har⟩
      · cases ha
    · cases ha
  case panic x =>
    split at ha
    · rename_i t v hv
      cases ha
      have hr := he x _ hv
      cases hev : ev' x <;> rw [hev] at hr <;> cases hr
      rename_i v' hvv
      exact ⟨ρ, w, .iface t v', by simp [execOp, hop, hev, Instr.panic], Nx.refl s, .iface t hvv⟩
    · cases ha
end
end Go.Ev
namespace Go.Ev
open Go

section
variable {C : Cfg} {low : Nat → Option Obj} {ρ : Emb} {h : AH} {w : World}

def noRef : Item → Bool
  | .code _ | .inBlock _ | .inLoop _ | .inScope _ | .inRegion _ _ | .beginRound => true
  | _ => false

inductive ItR (ρ : Emb) : Item → Item → Prop
  | same {i : Item} (h : noRef i = true) : ItR ρ i i
  | inR {l : Nat} {g : Img} (hg : ρ l = some g) : ItR ρ (.inRangeFunc l) (.inRangeFunc g.b)
  | endR {l : Nat} {g : Img} (hg : ρ l = some g) : ItR ρ (.endRangeFunc l) (.endRangeFunc g.b)
  | dead (ops : Array Oper) (l : List Nat) : ItR ρ (.extern "" #[]) (.inRegion ops l)

def PeR (ρ : Emb) (e e' : PanicEntry) : Prop := VR ρ e.v e'.v ∧ e'.recovered = e.recovered ∧ e'.goexit = e.goexit

inductive MoR (ρ : Emb) : FrameMode → FrameMode → Prop
  | run : MoR ρ .run .run
  | ret : MoR ρ .returning .returning
  | pan {l l' : List PanicEntry} (h : L2 (PeR ρ) l l') : MoR ρ (.panicking l) (.panicking l')

def RoR (ρ : Emb) (r r' : Option Nat) : Prop := (r = none ∧ r' = none) ∨ ∃ l g, r = some l ∧ ρ l = some g ∧ r' = some g.b

structure FR (ρ : Emb) (f : AF) (f' : Frame) : Prop where
  fn : f'.fn = f.fn
  tm : TmR ρ f.tmps f'.tmps
  nt : f'.tmps.size = f.nt
  todo : L2 (ItR ρ) f.todo f'.todo
  defers : L2 (DefR ρ) f.defers f'.defers
  mode : MoR ρ f.mode f'.mode
  kind : f'.kind = f.kind
  round : RoR ρ f.roundOf f'.roundOf

variable {ρ' : Emb}
theorem ItR.mono (hle : ρ.le ρ') {i i' : Item} (h : ItR ρ i i') : ItR ρ' i i' := by
  cases h with
  | same h => exact .same h
  | inR hg => exact .inR (hle _ _ hg)
  | endR hg => exact .endR (hle _ _ hg)
  | dead ops l => exact .dead ops l
theorem PeR.mono (hle : ρ.le ρ') {e e' : PanicEntry} (h : PeR ρ e e') : PeR ρ' e e' := ⟨h.1.mono hle, h.2⟩
theorem MoR.mono (hle : ρ.le ρ') {m m' : FrameMode} (h : MoR ρ m m') : MoR ρ' m m' := by
  cases h with
  | run => exact .run
  | ret => exact .ret
  | pan h => exact .pan (h.mono fun _ _ x => x.mono hle)
theorem RoR.mono (hle : ρ.le ρ') {r r' : Option Nat} (h : RoR ρ r r') : RoR ρ' r r' :=
  h.imp id fun ⟨l, g, a, b, c⟩ => ⟨l, g, a, hle _ _ b, c⟩
theorem FR.mono (hle : ρ.le ρ') {f : AF} {f' : Frame} (h : FR ρ f f') : FR ρ' f f' :=
  ⟨h.fn, h.tm.mono hle, h.nt, h.todo.mono fun _ _ x => x.mono hle, h.defers.mono fun _ _ x => x.mono hle, h.mode.mono hle, h.kind, h.round.mono hle⟩

/-! ## Parts of a step -/
theorem finish_rel {f f2 : AF} {f' : Frame} {v v' : Value} (hf : finishF f v = some f2) (hr : FR ρ f f') (hv : VR ρ v v') : FR ρ f2 (f'.finish v') := by
  have htd := hr.todo
  unfold finishF at hf
  unfold Frame.finish
  split at hf
  · rename_i ops i rest k ht
    rw [ht] at htd
    simp only [Option.map_eq_some_iff] at hf
    obtain ⟨t, hp, rfl⟩ := hf
    obtain ⟨h2, h3⟩ := putT_rel hr.tm hr.nt hp hv
    cases htd' : f'.todo with
    | nil => rw [htd'] at htd; cases htd
    | cons it k' =>
      rw [htd'] at htd
      cases htd with
      | cons hit hk =>
        cases hit
        refine ⟨hr.fn, ?_, ?_, .cons (.same rfl) hk, hr.defers, hr.mode, hr.kind, hr.round⟩
        · exact h2
        · exact h3
  · rename_i l k ht
    rw [ht] at htd
    cases hf
    cases htd' : f'.todo with
    | nil => rw [htd'] at htd; cases htd
    | cons it k' =>
      rw [htd'] at htd
      cases htd with
      | cons hit hk =>
        cases hit with
        | same h => cases h
        | inR hg => exact ⟨hr.fn, hr.tm, hr.nt, .cons (.endR hg) hk, hr.defers, hr.mode, hr.kind, hr.round⟩
  · rename_i k ht
    rw [ht] at htd
    cases hf
    cases htd' : f'.todo with
    | nil => rw [htd'] at htd; cases htd
    | cons it k' =>
      rw [htd'] at htd
      cases htd with
      | cons hit hk =>
        cases hit
        exact ⟨hr.fn, hr.tm, hr.nt, hk, hr.defers, hr.mode, hr.kind, hr.round⟩
  · cases hf

theorem raise_rel {f : AF} {f' : Frame} {vs vs' : List PanicEntry} (hr : FR ρ f f') (hv : L2 (PeR ρ) vs vs') : FR ρ (raiseF f vs) (f'.raise vs') := by
  have hm := hr.mode
  unfold raiseF Frame.raise
  cases hf : f.mode <;> cases hf' : f'.mode <;> rw [hf, hf'] at hm <;> cases hm
  · exact ⟨hr.fn, hr.tm, hr.nt, hr.todo, hr.defers, .pan hv, hr.kind, hr.round⟩
  · exact ⟨hr.fn, hr.tm, hr.nt, hr.todo, hr.defers, .pan hv, hr.kind, hr.round⟩
  · rename_i hl
    exact ⟨hr.fn, hr.tm, hr.nt, hr.todo, hr.defers, .pan (hv.append hl), hr.kind, hr.round⟩

theorem argTmps_get : ∀ (l : List Value) (i : Nat) (t : Tr Value) (m : Nat) (v : Value), (argTmps l i t).get m = some v → (i ≤ m ∧ l[m - i]? = some v) ∨ t.get m = some v
  | [], i, t, m, v, h => .inr h
  | u :: l, i, t, m, v, h => by
    rcases argTmps_get l (i + 1) _ m v h with ⟨h1, h2⟩ | h2
    · left
      have : m - i = (m - (i + 1)) + 1 := by omega
      exact ⟨by omega, by rw [this]; simpa using h2⟩
    · rw [Tr.get_set] at h2
      by_cases hm : m = i
      · subst hm
        rw [if_pos rfl] at h2; cases h2
        exact .inl ⟨Nat.le_refl _, by simp⟩
      · rw [if_neg hm] at h2; exact .inr h2

theorem enter_rel {f : FuncId} {args args' : Array Value} {kind : CallKind} {fr : AF} (hf : enterF C f args kind = some fr) (hr : AR ρ args args') : FR ρ fr (Frame.enter C.P f args' kind) := by
  unfold enterF at hf
  split at hf
  · rename_i fn hfn
    split at hf
    · rename_i b hb
      cases hf
      refine ⟨rfl, ?_, ?_, ?_, .nil, .run, rfl, .inl ⟨rfl, rfl⟩⟩
      · intro i v hv
        rcases argTmps_get _ _ _ _ _ hv with ⟨_, h2⟩ | h2
        · simp only [Nat.sub_zero] at h2
          obtain ⟨v', h3, h4⟩ := hr.get (i := i) (v := v) (by simpa using h2)
          refine ⟨v', ?_, h4⟩
          have hi := (Array.getElem?_eq_some_iff.1 h3).1
          simp only [Frame.enter]
          rw [Array.getElem?_append, if_pos hi]; exact h3
        · cases h2
      · simp [Frame.enter, hfn, hr.1]
      · simp only [Frame.enter, hfn, Option.bind_some, hb, Option.getD_some]
        exact .cons (.same rfl) .nil
    · cases hf
  · cases hf

theorem exitTo_rel {id : Nat} : ∀ {k k' : List Item}, L2 (ItR ρ) k k' → (∀ k1, exitTo id k = some k1 → ∃ k1', exitTo id k' = some k1' ∧ L2 (ItR ρ) k1 k1') ∧ (exitTo id k = none → exitTo id k' = none) := by
  intro k k' h
  induction h with
  | nil => exact ⟨fun k1 h => (by simp [exitTo] at h), fun _ => rfl⟩
  | @cons a b l m hab ht ih =>
    cases hab with
    | inR => exact ih
    | endR => exact ih
    | dead => exact ih
    | same hn =>
      cases a <;> first
        | exact ih
        | (rename_i id2
           simp only [exitTo]
           by_cases he : (id2 == id) = true
           · simp only [he, if_true]; exact ⟨fun k1 h => by cases h; exact ⟨_, rfl, ht⟩, fun h => by cases h⟩
           · simp only [he]; exact ih)

theorem gotoIn_rel {lb : Nat} : ∀ {k k' : List Item}, L2 (ItR ρ) k k' → (∀ k1, gotoIn lb k = some k1 → ∃ k1', gotoIn lb k' = some k1' ∧ L2 (ItR ρ) k1 k1') ∧ (gotoIn lb k = none → gotoIn lb k' = none) := by
  intro k k' h
  induction h with
  | nil => exact ⟨fun k1 h => (by simp [gotoIn] at h), fun _ => rfl⟩
  | @cons a b l m hab ht ih =>
    cases hab with
    | inR => exact ih
    | endR => exact ih
    | dead => exact ih
    | same hn =>
      cases a <;> first
        | exact ih
        | (rename_i body
           simp only [gotoIn]
           cases hfl : findLabel body lb with
           | some rest => exact ⟨fun k1 h => by cases h; exact ⟨_, rfl, .cons (.same rfl) (.cons (.same rfl) ht)⟩, fun h => by cases h⟩
           | none => exact ih)

/-- Operands, in a frame. -/
theorem evOf_rel (s : Sim C low ρ h w) {t : Tr Value} {fr : Frame} (ht : TmR ρ t fr.tmps) : EvR ρ (evOf C t) fr.eval := by
  intro x v hv
  cases x with
  | tmp i =>
    obtain ⟨v', h1, h2⟩ := ht i v hv
    have : fr.eval (.tmp i) = v' := by simp [Frame.eval, h1]
    rw [this]; exact h2
  | const c =>
    obtain ⟨hp, he⟩ := cond_some hv
    subst he
    exact VR.plain ρ _ hp
  | global g =>
    obtain ⟨hp, he⟩ := cond_some hv
    subst he
    have hg : g < C.base := by simpa using hp
    exact .ptr ⟨⟨g, 0, 0⟩, s.glob g hg, rfl, rfl, rfl, rfl⟩
  | func f =>
    cases hv
    exact VR.plain ρ _ rfl
end
end Go.Ev
namespace Go.Ev
open Go

section
variable {C : Cfg} {low : Nat → Option Obj} {ρ : Emb} {h : AH} {w : World}

structure MR (C : Cfg) (low : Nat → Option Obj) (ρ : Emb) (s : AS) (fr : Frame) (cs : List Frame) (w : World) : Prop where
  fr : FR ρ s.fr fr
  cs : L2 (FR ρ) s.cs cs
  sim : Sim C low ρ s.h w

def EndR (ρ : Emb) : End → Ending → Prop
  | .returned v, e => ∃ v', e = .returned v' ∧ VR ρ v v'
  | .panicked l, e => ∃ l', e = .panicked l' ∧ L2 (PeR ρ) l l'

/-- A run that is carried out to its end. -/
def RunOk1 (C : Cfg) (low : Nat → Option Obj) (run : AS → Option (End × AH)) : Prop :=
  ∀ s e h1, run s = some (e, h1) → ∀ ρ fr cs bot w, MR C low ρ s fr cs w →
    ∃ ρ1 w1 frL e', Steps C.P (lone fr (cs ++ bot) w) (lone frL bot w1) ∧ frL.leaving C.P w1 e' ∧ EndR ρ1 e e' ∧ Nx C low ρ s.h w ρ1 h1 w1
/-- Calls that were carried out elsewhere. -/
def OrcOk (C : Cfg) (low : Nat → Option Obj) : Prop :=
  ∀ f args h e h1, C.orc f args h = some (e, h1) → ∀ ρ w args' bot, Sim C low ρ h w → AR ρ args args' →
    ∃ ρ1 w1 frL e', Steps C.P (lone (Frame.enter C.P f args' .normal) bot w) (lone frL bot w1) ∧ frL.leaving C.P w1 e' ∧ EndR ρ1 e e' ∧ Nx C low ρ h w ρ1 h1 w1
def RunOk (C : Cfg) (low : Nat → Option Obj) (run : AS → Option (End × AH)) : Prop := RunOk1 C low run ∧ OrcOk C low

def GoOk (C : Cfg) (low : Nat → Option Obj) (ρ : Emb) (h : AH) (fr : Frame) (cs bot : List Frame) (w : World) (s1 : AS) : Prop :=
  ∃ ρ1 fr1 cs1 w1, Steps C.P (lone fr (cs ++ bot) w) (lone fr1 (cs1 ++ bot) w1) ∧ MR C low ρ1 s1 fr1 cs1 w1 ∧ Nx C low ρ h w ρ1 s1.h w1

theorem L2.monoF {ρ ρ' : Emb} (hle : ρ.le ρ') {l : List AF} {m : List Frame} (h : L2 (FR ρ) l m) : L2 (FR ρ') l m := h.mono fun _ _ x => x.mono hle

/-- One step to a frame with the rest of the stack as it was. -/
theorem go_one {s : AS} {fr fr1 : Frame} {cs bot : List Frame} (m : MR C low ρ s fr cs w) {ρ1 : Emb} {w1 : World} {f1 : AF} {h1 : AH} (hs : step C.P (lone fr (cs ++ bot) w) = .next (lone fr1 (cs ++ bot) w1))
    (hf : FR ρ1 f1 fr1) (nx : Nx C low ρ s.h w ρ1 h1 w1) : GoOk C low ρ s.h fr cs bot w { s with fr := f1, h := h1 } :=
  ⟨ρ1, fr1, cs, w1, .one hs, ⟨hf, m.cs.monoF nx.le, nx.sim⟩, nx⟩

theorem go_to {s : AS} {fr : Frame} {cs bot : List Frame} (m : MR C low ρ s fr cs w) {k : List Item} {k' : List Item} (hk : L2 (ItR ρ) k k')
    (hs : step C.P (lone fr (cs ++ bot) w) = .next (lone { fr with todo := k' } (cs ++ bot) w)) : GoOk C low ρ s.h fr cs bot w { s with fr := { s.fr with todo := k } } :=
  go_one m (fr1 := { fr with todo := k' }) hs ⟨m.fr.fn, m.fr.tm, m.fr.nt, hk, m.fr.defers, m.fr.mode, m.fr.kind, m.fr.round⟩ (Nx.refl m.sim)

theorem wanted_rel {ops : Array Oper} {t : Tr Value} {tmps : Array Value} {o : Oper} {b : Bool} (ht : TmR ρ t tmps) (hw : wantedF ops t o = some b) : Region.wanted o (yielded ops tmps) = b := by
  unfold wantedF at hw
  unfold Region.wanted
  cases hg : o.guard with
  | none => simp only [hg] at hw; cases hw; rfl
  | some x =>
    obtain ⟨j, want⟩ := x
    simp only [hg] at hw
    simp only [yielded]
    cases hd : (ops[j]?).bind (·.dst) with
    | none => simp only [hd] at hw; cases hw; simp
    | some d =>
      simp only [hd] at hw
      cases hv : t.get d with
      | none => simp [hv] at hw
      | some v =>
        obtain ⟨v', h1, h2⟩ := ht d v hv
        simp only [Option.bind_some, h1]
        rw [hv] at hw
        cases h2 <;> simp only at hw <;> cases hw <;> first
          | rfl
          | simp

theorem stepG_oper {fr : Frame} {cs : List Frame} {ops : Array Oper} {i : Nat} {rest : List Nat} {k : List Item} {o : Oper} (hm : fr.mode = .run) (ht : fr.todo = .inRegion ops (i :: rest) :: k) (ho : ops[i]? = some o)
    (hw : Region.wanted o (yielded ops fr.tmps) = true) (hd : fr.roundOf = none ∨ ∀ c, o.op ≠ .defer c) :
    stepG C.P true { frame := fr, callers := cs, status := .running, dying := none } w = stepG.apply C.P true fr cs none (execOp fr.eval o) w := by
  have h1 : stepG C.P true { frame := fr, callers := cs, status := .running, dying := none } w = stepG.oper C.P true fr cs none w := by
    simp [stepG, stepG.exec, hm, ht, ho, hw]
  rw [h1]
  have h2 : fr.oper? = some o := by simp [Frame.oper?, ht, ho]
  unfold stepG.oper
  simp only [h2]
  rcases hd with hd | hd
  · rw [hd]
  · split
    · rename_i c _ hc; exact absurd hc (hd c)
    · rfl

theorem callers_nil {s : AS} {cs : List Frame} (h : L2 (FR ρ) s.cs cs) (hs : s.cs = []) : cs = [] := by rw [hs] at h; cases h; rfl

theorem leave_call {fr c : Frame} {cs : List Frame} {e : Ending} {w : World} (h : fr.leaving C.P w e) (he : e ≠ .outgrown) :
    step C.P (lone fr (c :: cs) w) = .next (lone (match e with | .returned v => c.finish v | .panicked l => c.raise l | .outgrown => c) cs w) := by
  cases e with
  | returned v => exact step_leave_returned h
  | panicked l => exact step_leave_panicked h
  | outgrown => exact absurd rfl he

/-- The loops laid over what a nested run leaves. -/
theorem over_get : ∀ (t t' : Tr AO) (k : Nat), (overT t t').get k = match t.get k with | some a => cond a.held (some a) (t'.get k) | none => t'.get k := by
  intro t
  induction t with
  | nil => intro t' k; rfl
  | node o l r ihl ihr =>
    intro t' k
    cases t' with
    | nil =>
      simp only [overT]
      by_cases hk : k = 0
      · subst hk
        simp only [Tr.get_zero, Tr.get_nil]
        cases o with | none => rfl | some a => cases a.held <;> rfl
      · rcases Nat.mod_two_eq_zero_or_one k with hp | hp
        · rw [Tr.get_even _ _ _ hp hk, Tr.get_even _ _ _ hp hk, ihr]; simp [Tr.get_nil]
        · rw [Tr.get_odd _ _ _ hp, Tr.get_odd _ _ _ hp, ihl]; simp [Tr.get_nil]
    | node o' l' r' =>
      simp only [overT]
      by_cases hk : k = 0
      · subst hk
        simp only [Tr.get_zero]
        cases o <;> rfl
      · rcases Nat.mod_two_eq_zero_or_one k with hp | hp
        · rw [Tr.get_even _ _ _ hp hk, Tr.get_even _ _ _ hp hk, Tr.get_even _ _ _ hp hk, ihr]
        · rw [Tr.get_odd _ _ _ hp, Tr.get_odd _ _ _ hp, Tr.get_odd _ _ _ hp, ihl]
theorem strip_get : ∀ (t : Tr AO) (k : Nat), (stripT t).get k = match t.get k with | some a => cond a.held none (some a) | none => none := by
  intro t
  induction t with
  | nil => intro k; rfl
  | node o l r ihl ihr =>
    intro k
    simp only [stripT]
    by_cases hk : k = 0
    · subst hk; simp only [Tr.get_zero]; cases o <;> rfl
    · rcases Nat.mod_two_eq_zero_or_one k with hp | hp
      · rw [Tr.get_even _ _ _ hp hk, Tr.get_even _ _ _ hp hk, ihr]
      · rw [Tr.get_odd _ _ _ hp, Tr.get_odd _ _ _ hp, ihl]

theorem Nx.over {ρ1 : Emb} {h' : AH} {w1 : World} (s : Sim C low ρ h w) (nx : Nx C low ρ { t := stripT h.t, next := h.next } w ρ1 h' w1) : Nx C low ρ h w ρ1 { t := overT h.t h'.t, next := h'.next } w1 := by
  have hover : ∀ k, AH.get { t := overT h.t h'.t, next := h'.next } k = match h.get k with | some a => cond a.held (some a) (h'.get k) | none => h'.get k := fun k => over_get h.t h'.t k
  have hstrip : ∀ k, AH.get { t := stripT h.t, next := h.next } k = match h.get k with | some a => cond a.held none (some a) | none => none := fun k => strip_get h.t k
  -- a live name of the whole: a loop of ours, or what the run leaves
  have split : ∀ k o, AH.get { t := overT h.t h'.t, next := h'.next } k = some o → (h.get k = some o ∧ o.held = true) ∨ (h'.get k = some o ∧ ∀ a, h.get k = some a → a.held = false) := by
    intro k o hk
    rw [hover] at hk
    cases hg : h.get k with
    | none => rw [hg] at hk; exact .inr ⟨hk, fun a e => by cases e⟩
    | some a =>
      rw [hg] at hk
      simp only at hk
      cases hh : a.held with
      | true => rw [hh] at hk; cases hk; exact .inl ⟨rfl, hh⟩
      | false => rw [hh] at hk; exact .inr ⟨hk, fun b e => by cases e; exact hh⟩
  -- a loop's block is not touched
  have held : ∀ k o g, h.get k = some o → o.held = true → ρ k = some g → ¬ Foot C ρ { t := stripT h.t, next := h.next } g.b := by
    rintro k o g hk hh hg ⟨m, o2, g2, hm1, hm2, hm3, hm4⟩
    rw [hstrip] at hm2
    cases hx : h.get m with
    | none => rw [hx] at hm2; cases hm2
    | some a =>
      rw [hx] at hm2
      simp only at hm2
      cases ha : a.held with
      | true => rw [ha] at hm2; cases hm2
      | false =>
        have := s.inj m k a o g2 g hx hk hm3 hg hm4
        subst this
        rw [hk] at hx; cases hx
        rw [hh] at ha; cases ha
  refine ⟨nx.le, ⟨?_, ?_, nx.sim.fresh, nx.sim.bound, nx.sim.sep, nx.sim.glob, nx.sim.low, nx.sim.nb⟩, nx.size, ?_, nx.env⟩
  · intro k o hk
    rcases split k o hk with ⟨h1, h2⟩ | ⟨h1, _⟩
    · obtain ⟨g, o', e1, e2, e3⟩ := s.live k o h1
      have hb := s.bound k g e1
      exact ⟨g, o', nx.le _ _ e1, by rw [(nx.keep g.b hb (held k o g h1 h2 e1)).1]; exact e2, e3.mono nx.le⟩
    · exact nx.sim.live k o h1
  · intro k k' o o' g g' hk hk' hg hg' hb
    have one : ∀ k k' o o' g g', (h.get k = some o ∧ o.held = true) → (h'.get k' = some o') → ρ1 k = some g → ρ1 k' = some g' → g.b = g'.b → k = k' := by
      intro k k' o o' g g' ⟨h1, h2⟩ h3 hg hg' hb
      obtain ⟨g0, o0, e1, e2, e3⟩ := s.live k o h1
      have := nx.le _ _ e1; rw [hg] at this; cases this
      have hbd := s.bound k g e1
      have hnf := (nx.keep g.b hbd (held k o g h1 h2 e1)).2
      by_cases hkb : C.base ≤ k'
      · exact absurd ⟨k', o', g', hkb, h3, hg', hb.symm⟩ hnf
      · have hgl := nx.sim.glob k' (by omega)
        rw [hg'] at hgl
        have hg'b : g'.b = k' := by rw [Option.some.inj hgl]
        by_cases hkk : C.base ≤ k
        · have := nx.sim.sep k g hkk hg; omega
        · have hgl2 := nx.sim.glob k (by omega)
          rw [hg] at hgl2
          have : g.b = k := by rw [Option.some.inj hgl2]
          omega
    rcases split k o hk with h1 | ⟨h1, _⟩ <;> rcases split k' o' hk' with h2 | ⟨h2, _⟩
    · obtain ⟨g0, _, e1, _, _⟩ := s.live k o h1.1
      obtain ⟨g0', _, e1', _, _⟩ := s.live k' o' h2.1
      have := nx.le _ _ e1; rw [hg] at this; cases this
      have := nx.le _ _ e1'; rw [hg'] at this; cases this
      exact s.inj k k' o o' g g' h1.1 h2.1 e1 e1' hb
    · exact one k k' o o' g g' h1 h2 hg hg' hb
    · exact (one k' k o' o g' g h2 h1 hg' hg hb.symm).symm
    · exact nx.sim.inj k k' o o' g g' h1 h2 hg hg' hb
  · intro b hb hnf
    have hnf' : ¬ Foot C ρ { t := stripT h.t, next := h.next } b := by
      rintro ⟨m, o2, g2, hm1, hm2, hm3, hm4⟩
      rw [hstrip] at hm2
      cases hx : h.get m with
      | none => rw [hx] at hm2; cases hm2
      | some a => exact hnf ⟨m, a, g2, hm1, hx, hm3, hm4⟩
    obtain ⟨e, f⟩ := nx.keep b hb hnf'
    refine ⟨e, ?_⟩
    rintro ⟨m, o2, g2, hm1, hm2, hm3, hm4⟩
    rcases split m o2 hm2 with ⟨h1, h2⟩ | ⟨h1, _⟩
    · obtain ⟨g0, _, e1, _, _⟩ := s.live m o2 h1
      have := nx.le _ _ e1; rw [hm3] at this; cases this
      exact hnf ⟨m, o2, g2, hm1, h1, e1, hm4⟩
    · exact f ⟨m, o2, g2, hm1, h1, hm3, hm4⟩

/-- A call carried out in one go: from where it has been entered to where it leaves. -/
theorem runCall_sound (ok : Ok C low) {run : AS → Option (End × AH)} (hrun : RunOk C low run) (s : Sim C low ρ h w) {f : FuncId} {args args' : Array Value} {e : End} {h1 : AH}
    (hc : runCall C run f args h = some (e, h1)) (ha : AR ρ args args') (bot : List Frame) :
    ∃ ρ1 w1 frL e', Steps C.P (lone (Frame.enter C.P f args' .normal) bot w) (lone frL bot w1) ∧ frL.leaving C.P w1 e' ∧ EndR ρ1 e e' ∧ Nx C low ρ h w ρ1 h1 w1 := by
  unfold runCall at hc
  cases hs : C.sum f args.toList with
  | some v =>
    simp only [hs] at hc
    cases hc
    obtain ⟨p1, p2, hcalls⟩ := ok.sum _ _ _ hs
    have heq : args' = args := arr_eq ha.1 fun i v v' h1 h2 => (ha.2 i v v' h1 h2).plain_eq ((plainL_iff _).1 p1 v (by rw [← Array.getElem?_toList] at h1; exact List.mem_of_getElem? h1))
    subst heq
    obtain ⟨e', w1, frL, ⟨rfl, n, rfl⟩, hcm, _, hl⟩ := hcalls w s.low bot
    have hargs : args'.toList.toArray = args' := by simp
    rw [hargs] at hcm
    exact ⟨ρ, _, frL, _, hcm, hl, ⟨v, rfl, VR.plain ρ v p2⟩, Nx.same s rfl ⟨rfl, rfl, rfl⟩⟩
  | none =>
    simp only [hs] at hc
    have hst : Sim C low ρ { t := stripT h.t, next := h.next } w := s.weaken rfl fun k o hk => by
      have : AH.get { t := stripT h.t, next := h.next } k = match h.get k with | some a => cond a.held none (some a) | none => none := strip_get h.t k
      rw [this] at hk
      cases hg : h.get k with
      | none => rw [hg] at hk; cases hk
      | some a =>
        rw [hg] at hk
        simp only at hk
        cases hh : a.held with
        | true => rw [hh] at hk; cases hk
        | false => rw [hh] at hk; exact hk
    cases ho : C.orc f args { t := stripT h.t, next := h.next } with
    | some y =>
      obtain ⟨e2, h2⟩ := y
      simp only [ho] at hc
      cases hc
      obtain ⟨ρ1, w1, frL, e', r1, r2, r3, r4⟩ := hrun.2 _ _ _ _ _ ho ρ w args' bot hst ha
      exact ⟨ρ1, w1, frL, e', r1, r2, r3, Nx.over s r4⟩
    | none =>
      simp only [ho] at hc
      cases hf : enterF C f args .normal with
      | none => simp [hf] at hc
      | some fr =>
        simp only [hf] at hc
        have hfr := enter_rel hf ha
        cases hn : C.nest f with
        | false =>
          simp only [hn, cond_false] at hc
          exact hrun.1 _ _ _ hc ρ _ [] bot w ⟨hfr, .nil, s⟩
        | true =>
          simp only [hn, cond_true] at hc
          cases hr : run { fr, cs := [], h := { t := stripT h.t, next := h.next } } with
          | none => simp [hr] at hc
          | some y =>
            obtain ⟨e2, h2⟩ := y
            simp only [hr] at hc
            cases hc
            obtain ⟨ρ1, w1, frL, e', r1, r2, r3, r4⟩ := hrun.1 _ _ _ hr ρ _ [] bot w ⟨hfr, .nil, hst⟩
            exact ⟨ρ1, w1, frL, e', r1, r2, r3, Nx.over s r4⟩
end
end Go.Ev
namespace Go.Ev
open Go

section
variable {C : Cfg} {low : Nat → Option Obj} {ρ : Emb} {h : AH} {w : World}

theorem aop_defer {ev : Ev} {o : Oper} {c : Call} {r : OpR} (hop : o.op = .defer c) (ha : aop C ev h o = some r) : ∃ d, r = .defer d := by
  unfold aop at ha
  rw [hop] at ha
  simp only at ha
  split at ha
  · split at ha
    · cases ha; exact ⟨_, rfl⟩
    · cases ha
  · cases ha

theorem mode_run {m : FrameMode} {m' : FrameMode} (h : MoR ρ m m') (hm : m = .run) : m' = .run := by subst hm; cases h; rfl

theorem todo_region {todo todo' : List Item} (h : L2 (ItR ρ) todo todo') {ops : Array Oper} {l : List Nat} {k : List Item} (ht : todo = .inRegion ops l :: k) :
    ∃ k', todo' = .inRegion ops l :: k' ∧ L2 (ItR ρ) k k' := by
  subst ht
  cases h with
  | cons hit hk => cases hit; exact ⟨_, rfl, hk⟩

theorem peR_new {v v' : Value} (hv : VR ρ v v') : L2 (PeR ρ) [({ v, recovered := false } : PanicEntry)] [{ v := v', recovered := false }] := .cons ⟨hv, rfl, rfl⟩ .nil

theorem undef_rel : VR ρ undef undef := VR.plain ρ undef rfl

theorem afterOp_sound (ok : Ok C low) {run : AS → Option (End × AH)} (hrun : RunOk C low run) {s : AS} {fr : Frame} {cs bot : List Frame} (m : MR C low ρ s fr cs w) (hm : s.fr.mode = .run)
    {ops : Array Oper} {i : Nat} {rest : List Nat} {k : List Item} (ht : s.fr.todo = .inRegion ops (i :: rest) :: k) {o : Oper} (ho : ops[i]? = some o) (hw : wantedF ops s.fr.tmps o = some true) {r : OpR}
    (ha : aop C (s.fr.ev C) s.h o = some r) :
    (∀ s1, afterOp C run s r = .go s1 → GoOk C low ρ s.h fr cs bot w s1) ∧
    (∀ n f, afterOp C run s r = .pick n f → ∃ j, j < n ∧ ∀ s1, f j = some s1 → GoOk C low ρ s.h fr cs bot w s1) ∧ ∀ e h1, afterOp C run s r ≠ .done e h1 := by
  have hm' := mode_run m.fr.mode hm
  obtain ⟨k', ht', hk'⟩ := todo_region m.fr.todo ht
  have hw' := wanted_rel m.fr.tm hw
  have hev := evOf_rel m.sim m.fr.tm
  have hop := aop_sound ok m.sim hev ha
  have hstepG : (fr.roundOf = none ∨ ∀ c, o.op ≠ .defer c) → stepG C.P true { frame := fr, callers := cs ++ bot, status := .running, dying := none } w = stepG.apply C.P true fr (cs ++ bot) none (execOp fr.eval o) w :=
    stepG_oper hm' ht' ho hw'
  have hnd : (∀ d, r ≠ .defer d) → fr.roundOf = none ∨ ∀ c, o.op ≠ .defer c := by
    intro h1
    right
    intro c hc
    obtain ⟨d, hd⟩ := aop_defer hc ha
    exact h1 d hd
  cases r with
  | val v h1 =>
    obtain ⟨ρ1, w1, v', run1, nx, hv⟩ := hop
    refine ⟨fun s1 hs => ?_, fun n f hs => ?_, fun e h2 hs => ?_⟩ <;> simp only [afterOp] at hs
    · split at hs
      · rename_i f hf
        cases hs
        refine go_one m (step_lone_go ?_) (finish_rel hf (m.fr.mono nx.le) hv) nx
        rw [hstepG (hnd (by intro d e; cases e))]
        simp [stepG.apply, run1]
      · cases hs
    · split at hs <;> cases hs
    · split at hs <;> cases hs
  | skip h1 =>
    obtain ⟨ρ1, w1, run1, nx⟩ := hop
    refine ⟨fun s1 hs => ?_, fun n f hs => ?_, fun e h2 hs => ?_⟩ <;> simp only [afterOp] at hs
    · split at hs
      · rename_i f hf
        cases hs
        refine go_one m (step_lone_go ?_) (finish_rel hf (m.fr.mono nx.le) undef_rel) nx
        rw [hstepG (hnd (by intro d e; cases e))]
        simp [stepG.apply, run1]
      · cases hs
    · split at hs <;> cases hs
    · split at hs <;> cases hs
  | enter f args =>
    obtain ⟨args', run1, har⟩ := hop
    have henter : step C.P (lone fr (cs ++ bot) w) = .next (lone (Frame.enter C.P f args' .normal) (fr :: (cs ++ bot)) w) := by
      refine step_lone_go ?_
      rw [hstepG (hnd (by intro d e; cases e))]
      simp [stepG.apply, run1, ht']
    refine ⟨fun s1 hs => ?_, fun n2 f2 hs => ?_, fun e h2 hs => ?_⟩ <;> simp only [afterOp] at hs
    · cases hin : inOne C f args with
      | true =>
        rw [hin] at hs
        simp only [cond_true] at hs
        cases hc : runCall C run f args s.h with
        | none => simp [hc] at hs
        | some y =>
          obtain ⟨e, h1⟩ := y
          obtain ⟨ρ1, w1, frL, e', r1, r2, r3, nx⟩ := runCall_sound ok hrun m.sim hc har (fr :: (cs ++ bot))
          simp only [hc] at hs
          cases e with
          | returned v =>
            obtain ⟨v', rfl, hv⟩ := r3
            simp only at hs
            split at hs
            · rename_i f2 hf
              cases hs
              have hst := (Steps.one henter).trans (r1.trans (.one (leave_call r2 (by intro e; cases e))))
              exact ⟨ρ1, fr.finish v', cs, w1, hst, ⟨finish_rel hf (m.fr.mono nx.le) hv, m.cs.monoF nx.le, nx.sim⟩, nx⟩
            · cases hs
          | panicked l =>
            obtain ⟨l', rfl, hl⟩ := r3
            simp only at hs
            cases hs
            have hst := (Steps.one henter).trans (r1.trans (.one (leave_call r2 (by intro e; cases e))))
            exact ⟨ρ1, fr.raise l', cs, w1, hst, ⟨raise_rel (m.fr.mono nx.le) hl, m.cs.monoF nx.le, nx.sim⟩, nx⟩
      | false =>
        rw [hin] at hs
        simp only [cond_false] at hs
        split at hs
        · rename_i fr1 hf
          cases hs
          exact ⟨ρ, Frame.enter C.P f args' .normal, fr :: cs, w, .one henter, ⟨enter_rel hf har, .cons m.fr m.cs, m.sim⟩, Nx.refl m.sim⟩
        · cases hs
    · revert hs
      cases inOne C f args <;> simp only [cond_true, cond_false] <;> (repeat' split) <;> intro hs <;> cases hs
    · revert hs
      cases inOne C f args <;> simp only [cond_true, cond_false] <;> (repeat' split) <;> intro hs <;> cases hs
  | defer d =>
    obtain ⟨d', run1, hd⟩ := hop
    refine ⟨fun s1 hs => ?_, fun n f hs => ?_, fun e h2 hs => ?_⟩ <;> simp only [afterOp] at hs
    · cases hro : s.fr.roundOf with
      | some l => simp [hro] at hs
      | none =>
        simp only [hro] at hs
        split at hs
        · rename_i f hf
          cases hs
          have hro' : fr.roundOf = none := by
            rcases m.fr.round with ⟨_, h2⟩ | ⟨l, g, h1, _, _⟩
            · exact h2
            · rw [hro] at h1; cases h1
          have hfr : FR ρ { s.fr with defers := d :: s.fr.defers, roundOf := none } { fr with defers := d' :: fr.defers } :=
            ⟨m.fr.fn, m.fr.tm, m.fr.nt, m.fr.todo, .cons hd m.fr.defers, m.fr.mode, m.fr.kind, .inl ⟨rfl, hro'⟩⟩
          refine go_one m (fr1 := ({ fr with defers := d' :: fr.defers } : Frame).finish undef) (step_lone_go ?_) (finish_rel hf hfr undef_rel) (Nx.refl m.sim)
          rw [hstepG (.inl hro')]
          simp [stepG.apply, run1]
        · cases hs
    · cases hro : s.fr.roundOf <;> simp only [hro] at hs <;> (try split at hs) <;> cases hs
    · cases hro : s.fr.roundOf <;> simp only [hro] at hs <;> (try split at hs) <;> cases hs
  | recover =>
    have run1 : (execOp fr.eval o).run C.P w = .ok .recover w := hop
    refine ⟨fun s1 hs => ?_, fun n f hs => ?_, fun e h2 hs => ?_⟩ <;> simp only [afterOp] at hs
    · cases hro : s.fr.roundOf with
      | some l => simp [hro] at hs
      | none =>
        simp only [hro] at hs
        have hro' : fr.roundOf = none := by
          rcases m.fr.round with ⟨_, h2⟩ | ⟨l, g, h1, _, _⟩
          · exact h2
          · rw [hro] at h1; cases h1
        have hsg := hstepG (hnd (by intro d e; cases e))
        split at hs
        · rename_i v cs2 hrec
          split at hs
          · rename_i f2 hf
            cases hs
            -- what the program's recover gives
            have key : ∃ v' cs2', VR ρ v v' ∧ L2 (FR ρ) cs2 cs2' ∧ step C.P (lone fr (cs ++ bot) w) = .next (lone (fr.finish v') (cs2' ++ bot) w) := by
              unfold recoverF at hrec
              split at hrec
              · rename_i hkd
                cases hrec
                have hkd' : fr.kind = .normal := m.fr.kind.trans hkd
                refine ⟨.nilIface, cs, .nilIface, m.cs, step_lone_go ?_⟩
                rw [hsg]; simp [stepG.apply, run1, hro', tryRecover, hkd']
              · rename_i c rest hkd hcse
                have hkd' : fr.kind = .deferred := m.fr.kind.trans hkd
                have hcs := m.cs
                rw [hcse] at hcs
                cases hcs with
                | @cons _ c' _ rest' hc hr =>
                have hmo := hc.mode
                split at hrec
                · rename_i v0 older hcm
                  cases hrec
                  rw [hcm] at hmo
                  cases hcm' : c'.mode <;> rw [hcm'] at hmo <;> cases hmo
                  rename_i hl
                  cases hl with
                  | @cons _ pe _ older' hp ho =>
                    obtain ⟨v1, r1, g1⟩ := pe
                    obtain ⟨q1, q2, q3⟩ := hp
                    simp only at q1 q2 q3
                    subst q2 q3
                    refine ⟨v1, { c' with mode := .panicking ({ v := v1, recovered := true } :: older') } :: rest', q1, .cons ⟨hc.fn, hc.tm, hc.nt, hc.todo, hc.defers, .pan (.cons ⟨q1, rfl, rfl⟩ ho), hc.kind, hc.round⟩ hr, step_lone_go ?_⟩
                    rw [hsg]; simp [stepG.apply, run1, hro', tryRecover, hkd', hcm']
                · rename_i hcm
                  cases hrec
                  refine ⟨.nilIface, c' :: rest', .nilIface, .cons hc hr, step_lone_go ?_⟩
                  rw [hsg]
                  have htr : tryRecover fr (c' :: (rest' ++ bot)) = none := by
                    unfold tryRecover
                    rw [hkd']
                    simp only
                    cases hcm' : c'.mode with
                    | run => rfl
                    | returning => rfl
                    | panicking l =>
                      rw [hcm'] at hmo
                      cases hcm2 : c.mode <;> rw [hcm2] at hmo <;> cases hmo
                      rename_i hl
                      cases hl with
                      | nil => rfl
                      | @cons pe0 pe _ older' hp ho =>
                        obtain ⟨v1, r1, g1⟩ := pe
                        obtain ⟨v0, r0, g0⟩ := pe0
                        obtain ⟨q1, q2, q3⟩ := hp
                        simp only at q1 q2 q3
                        subst q2 q3
                        cases r1 <;> cases g1 <;> first
                          | exact absurd hcm2 (hcm _ _)
                          | rfl
                  simp [stepG.apply, run1, hro', htr]
              · cases hrec
            obtain ⟨v', cs2', hv, hcs2, hst⟩ := key
            exact ⟨ρ, fr.finish v', cs2', w, .one hst, ⟨finish_rel hf m.fr hv, hcs2, m.sim⟩, Nx.refl m.sim⟩
          · cases hs
        · cases hs
    · cases hro : s.fr.roundOf <;> simp only [hro] at hs <;> (repeat' split at hs) <;> cases hs
    · cases hro : s.fr.roundOf <;> simp only [hro] at hs <;> (repeat' split at hs) <;> cases hs
  | round l fn t nt a b =>
    obtain ⟨g, t', hg, run1, htm, hn⟩ := hop
    refine ⟨fun s1 hs => ?_, fun n f hs => ?_, fun e h2 hs => ?_⟩ <;> simp only [afterOp] at hs <;> cases hs
    have hst : step C.P (lone fr (cs ++ bot) w) = .next (lone (Frame.round g.b fn t' a b .normal) (fr :: (cs ++ bot)) w) := by
      refine step_lone_go ?_
      rw [hstepG (hnd (by intro d e; cases e))]
      simp [stepG.apply, run1]
    exact ⟨ρ, _, fr :: cs, w, .one hst, ⟨⟨rfl, htm, hn, .cons (.same rfl) (.cons (.same rfl) (.cons (.same rfl) .nil)), .nil, .run, rfl, .inr ⟨l, g, rfl, hg, rfl⟩⟩, .cons m.fr m.cs, m.sim⟩, Nx.refl m.sim⟩
  | panic v h1 =>
    obtain ⟨ρ1, w1, v', run1, nx, hv⟩ := hop
    refine ⟨fun s1 hs => ?_, fun n f hs => ?_, fun e h2 hs => ?_⟩ <;> simp only [afterOp] at hs <;> cases hs
    refine go_one m (step_lone_go ?_) (raise_rel (m.fr.mono nx.le) (peR_new hv)) nx
    rw [hstepG (hnd (by intro d e; cases e))]
    simp [stepG.apply, run1]
  | pick n f =>
    obtain ⟨j, hj, hall⟩ := hop
    refine ⟨fun s1 hs => ?_, fun n2 f2 hs => ?_, fun e h2 hs => ?_⟩ <;> simp only [afterOp] at hs <;> cases hs
    refine ⟨j, hj, fun s1 hs1 => ?_⟩
    cases hfj : f j with
    | none => simp [hfj] at hs1
    | some y =>
      obtain ⟨v, h1⟩ := y
      simp only [hfj, Option.map_eq_some_iff] at hs1
      obtain ⟨f1, hf, rfl⟩ := hs1
      obtain ⟨ρ1, w1, v', run1, nx, hv⟩ := hall v h1 hfj
      refine go_one m (step_lone_go ?_) (finish_rel hf (m.fr.mono nx.le) hv) nx
      rw [hstepG (hnd (by intro d e; cases e))]
      simp [stepG.apply, run1]
end
end Go.Ev
namespace Go.Ev
open Go

section
variable {C : Cfg} {low : Nat → Option Obj} {ρ : Emb} {h : AH} {w : World}

/-- A result variable, in the program's frame. -/
def resP (tmps : Array Value) (r : ResultVar) : Sem Value :=
  match r with
  | .tmp i => pure (tmps.getD i undef)
  | .cell a ty => asAddr (tmps.getD a undef) >>= loadVar ty

theorem res_one (s : Sim C low ρ h w) {t : Tr Value} {tmps : Array Value} (ht : TmR ρ t tmps) {r : ResultVar} {v : Value} (hv : resA C h t r = some v) : ∃ v', (resP tmps r).run C.P w = .ok v' w ∧ VR ρ v v' := by
  cases r with
  | tmp i =>
    obtain ⟨v', e1, e2⟩ := ht i v hv
    exact ⟨v', by simp [resP, Array.getD_eq_getD_getElem?, e1], e2⟩
  | cell a ty =>
    simp only [resA, Option.bind_eq_some_iff] at hv
    obtain ⟨p, hp, hv⟩ := hv
    obtain ⟨p', e1, e2⟩ := ht a p hp
    obtain ⟨v', _, e4, e5⟩ := aload_sound s hv e2
    cases e2 with
    | @ptr a0 a' har =>
      refine ⟨v', ?_, e5⟩
      have : tmps.getD a undef = .pointer (some a') := by rw [Array.getD_eq_getD_getElem?, e1]; rfl
      simp only [resP, this, Sem.run_bind, asAddr, Sem.run_pure, Result.andThen_ok]
      exact e4 a' rfl
    | _ => simp [aload] at hv

theorem results_rel (s : Sim C low ρ h w) {t : Tr Value} {tmps : Array Value} (ht : TmR ρ t tmps) : ∀ (rs : List ResultVar) (vs : List Value),
    rs.mapM (resA C h t) = some vs → ∃ vs', (rs.mapM (resP tmps)).run C.P w = .ok vs' w ∧ L2 (VR ρ) vs vs' := by
  intro rs
  induction rs with
  | nil => intro vs h; simp at h; subst h; exact ⟨[], rfl, .nil⟩
  | cons r rs ih =>
    intro vs h
    rw [List.mapM_cons] at h
    simp only [Option.bind_eq_bind, Option.bind_eq_some_iff, Option.pure_def, Option.some.injEq] at h
    obtain ⟨v, hv, l, hl, rfl⟩ := h
    obtain ⟨l', h1, h2⟩ := ih l hl
    obtain ⟨v', e1, e2⟩ := res_one s ht hv
    refine ⟨v' :: l', ?_, .cons e2 h2⟩
    rw [List.mapM_cons, Sem.run_bind, e1, Result.andThen_ok, Sem.run_bind, h1, Result.andThen_ok]
    rfl

theorem results_run (s : Sim C low ρ h w) {fn : Func} {t : Tr Value} {tmps : Array Value} (ht : TmR ρ t tmps) {vs : List Value}
    (hv : fn.results.toList.mapM (resA C h t) = some vs) : ∃ v', (results fn tmps).run C.P w = .ok v' w ∧ VR ρ (oneOf vs) v' := by
  obtain ⟨vs', h1, h2⟩ := results_rel s ht _ _ hv
  have hrun : (fn.results.mapM (resP tmps)).run C.P w = .ok vs'.toArray w := by
    rw [Array.mapM_eq_mapM_toList, Sem.run_map, h1]; rfl
  have hfun : results fn tmps = (fn.results.mapM (resP tmps) >>= fun vs => pure (if h : vs.size = 1 then vs[0] else .tuple vs)) := by
    unfold results
    congr 1
  refine ⟨_, by rw [hfun, Sem.run_bind, hrun, Result.andThen_ok, Sem.run_pure], ?_⟩
  cases h2 with
  | nil => exact .tuple rfl (by intro i v v' e1; simp at e1)
  | cons hv1 ht2 =>
    cases ht2 with
    | nil => simpa [oneOf] using hv1
    | cons hv2 ht3 =>
      have := list_of_ar (L2.cons hv1 (L2.cons hv2 ht3))
      simp only [List.size_toArray, List.length_cons]
      rw [dif_neg (by omega)]
      exact .tuple this.1 this.2

theorem ret_sound {s : AS} {fr : Frame} {cs bot : List Frame} {w0 : World} (m : MR C low ρ s fr cs w0) {ρ1 : Emb} {h1 : AH} (nx : Nx C low ρ s.h w0 ρ1 h1 w) {v v' : Value} (hv : VR ρ1 v v') {s1 : AS}
    (hst : (stepG C.P true { frame := fr, callers := cs ++ bot, status := .running, dying := none } w0).bare = (doReturn C.P true fr (cs ++ bot) none v' w).bare)
    (hs : retF { s with h := h1 } v = .go s1) : GoOk C low ρ s.h fr cs bot w0 s1 := by
  unfold retF at hs
  simp only at hs
  split at hs
  · cases hs
  · rename_i c rest hcs
    have hmcs := m.cs
    rw [hcs] at hmcs
    cases hmcs with
    | @cons _ c' _ rest' hc hr =>
    split at hs
    · rename_i hkd
      split at hs
      · rename_i c2 hf
        cases hs
        have hkd' : fr.kind = .normal := m.fr.kind.trans hkd
        refine ⟨ρ1, c'.finish v', rest', w, .one (step_lone_go ?_), ⟨finish_rel hf (hc.mono nx.le) hv, hr.monoF nx.le, nx.sim⟩, nx⟩
        rw [hst]; simp [doReturn, hkd']
      · cases hs
    · rename_i hkd
      cases hs
      have hkd' : fr.kind = .deferred := m.fr.kind.trans hkd
      have hmo := hc.mode
      -- the caller's mode behind the deferred call
      have key : ∃ c2', (match c'.mode with
          | .panicking ({ recovered := true, .. } :: older) =>
            (match older.dropWhile (!·.goexit) with
            | [] => { c' with mode := .returning }
            | rest => { c' with mode := .panicking rest } : Frame)
          | _ => c') = c2' ∧ FR ρ (match c.mode with
          | .panicking ({ recovered := true, .. } :: older) =>
            (match older.dropWhile (!·.goexit) with
            | [] => { c with mode := .returning }
            | rest => { c with mode := .panicking rest } : AF)
          | _ => c) c2' := by
        refine ⟨_, rfl, ?_⟩
        cases hcm : c.mode <;> cases hcm' : c'.mode <;> rw [hcm, hcm'] at hmo <;> cases hmo
        · exact hc
        · exact hc
        · rename_i l l' hl
          cases hl with
          | nil => exact hc
          | @cons pe0 pe older older' hp ho =>
            obtain ⟨v1, r1, g1⟩ := pe
            obtain ⟨v0, r0, g0⟩ := pe0
            obtain ⟨q1, q2, q3⟩ := hp
            simp only at q1 q2 q3
            subst q2 q3
            have hdrop : ∀ {l l' : List PanicEntry}, L2 (PeR ρ) l l' → L2 (PeR ρ) (l.dropWhile (!·.goexit)) (l'.dropWhile (!·.goexit)) := by
              intro l l' hl
              induction hl with
              | nil => exact .nil
              | @cons a b l m hab ht ih =>
                rw [List.dropWhile_cons, List.dropWhile_cons, hab.2.2]
                split
                · exact ih
                · exact .cons hab ht
            cases r1 with
            | false => exact hc
            | true =>
              simp only
              have hd := hdrop ho
              generalize older.dropWhile (!·.goexit) = d at hd
              generalize older'.dropWhile (!·.goexit) = d' at hd
              cases hd with
              | nil => exact ⟨hc.fn, hc.tm, hc.nt, hc.todo, hc.defers, .ret, hc.kind, hc.round⟩
              | cons a b => exact ⟨hc.fn, hc.tm, hc.nt, hc.todo, hc.defers, .pan (.cons a b), hc.kind, hc.round⟩
      obtain ⟨c2', hk1, hk2⟩ := key
      subst hk1
      refine ⟨ρ1, _, rest', w, .one (step_lone_go ?_), ⟨hk2.mono nx.le, hr.monoF nx.le, nx.sim⟩, nx⟩
      rw [hst]
      simp only [doReturn, List.cons_append, hkd']
      rfl
    · cases hs

theorem leave_sound {s : AS} {fr : Frame} {cs bot : List Frame} (m : MR C low ρ s fr cs w) {jump : Option Code} {s1 : AS} (hs : leaveF C s jump = .go s1)
    (h0 : fr.roundOf = none → (jump = none ∨ jump = some .ret) → step C.P (lone fr (cs ++ bot) w) = .next (lone { fr with mode := .returning } (cs ++ bot) w))
    (h1 : ∀ b v w1, fr.roundOf = some b → (Instr.endRound b jump).run C.P w = .ok v w1 → (stepG C.P true { frame := fr, callers := cs ++ bot, status := .running, dying := none } w).bare = (doReturn C.P true fr (cs ++ bot) none v w1).bare) :
    GoOk C low ρ s.h fr cs bot w s1 := by
  unfold leaveF at hs
  cases hro : s.fr.roundOf with
  | none =>
    have hro' : fr.roundOf = none := by
      rcases m.fr.round with ⟨_, h2⟩ | ⟨l, g, h1, _, _⟩
      · exact h2
      · rw [hro] at h1; cases h1
    simp only [hro] at hs
    have hj : jump = none ∨ jump = some .ret := by
      cases jump with
      | none => exact .inl rfl
      | some c => cases c <;> simp at hs; exact .inr rfl
    have hs' : s1 = { s with fr := { s.fr with mode := .returning, roundOf := none } } := by
      rcases hj with rfl | rfl <;> (simp only at hs; cases hs; rfl)
    subst hs'
    exact go_one m (fr1 := { fr with mode := .returning }) (h0 hro' hj) ⟨m.fr.fn, m.fr.tm, m.fr.nt, m.fr.todo, m.fr.defers, .ret, m.fr.kind, .inl ⟨rfl, hro'⟩⟩ (Nx.refl m.sim)
  | some l =>
    simp only [hro] at hs
    rcases m.fr.round with ⟨h2, _⟩ | ⟨l2, g, e1, e2, e3⟩
    · rw [hro] at h2; cases h2
    rw [hro] at e1; cases e1
    split at hs
    · rename_i st p fn t nt ps a b d hl
      obtain ⟨o', f1, f2, f3⟩ : ∃ o', w.heap[g.b]? = some o' ∧ ObR C.P ρ g (.loop st p fn t nt ps a b d) o' ∧ True := by
        obtain ⟨g2, o', f1, f2, f3⟩ := m.sim.live _ _ hl
        rw [e2] at f1; cases f1
        exact ⟨o', f2, f3, trivial⟩
      cases f2 with
      | @loop _ _ _ _ tmps _ _ _ _ _ gd ht hn hd =>
        cases hb : Nat.ble C.base l with
        | false => rw [hb] at hs; cases hs
        | true =>
          rw [hb] at hs
          simp only [cond_true] at hs
          have hbb := Nat.le_of_ble_eq_true hb
          have hnc : ∀ c e f, Obj.loop { state := st, pending := p, fn, tmps, params := ps, assign := a, body := b, defers := gd.b } ≠ .cells c e f := by intro _ _ _ h; cases h
          have hif : (if jump.isNone = true then LoopState.ready else LoopState.done) = cond jump.isNone .ready .done := by cases jump.isNone <;> rfl
          have hrun : (Instr.endRound g.b jump).run C.P w = .ok (.bool jump.isNone)
              { w with heap := w.heap.setIfInBounds g.b (.loop { state := cond jump.isNone .ready .done, pending := jump, fn, tmps, params := ps, assign := a, body := b, defers := gd.b }) } := by
            simp only [Instr.endRound, Instr.getLoop, Sem.run_bind, run_getObj f1 hnc, Result.andThen_ok, Sem.run_pure, run_setObj f1 hnc, hif]
          have nx := Nx.put m.sim hl hbb e2 (o := .loop (cond jump.isNone .ready .done) jump fn t nt ps a b d) (o' := .loop { state := cond jump.isNone .ready .done, pending := jump, fn, tmps, params := ps, assign := a, body := b, defers := gd.b })
            (.loop ht hn hd) (w' := { w with heap := w.heap.setIfInBounds g.b (.loop { state := cond jump.isNone .ready .done, pending := jump, fn, tmps, params := ps, assign := a, body := b, defers := gd.b }) }) rfl ⟨rfl, rfl, rfl⟩
          exact ret_sound m nx (v := .bool jump.isNone) (.bool _) (h1 _ _ _ e3 hrun) hs
    · cases hs

theorem invoke_func (ok : Ok C low) {f : FuncId} (hb : bodied C.P f = true) (cap args : Array Value) (w : World) : (invoke (.fn (.func f) cap) args).run C.P w = .ok (.enter f (args ++ cap)) w := ok.enters f hb _ _

theorem unwind_go (ok : Ok C low) {s : AS} {fr : Frame} {cs bot : List Frame} (m : MR C low ρ s fr cs w) (hm : s.fr.mode ≠ .run) {s1 : AS} (hs : unwindF C s = .go s1) : GoOk C low ρ s.h fr cs bot w s1 := by
  have hm' : fr.mode ≠ .run := by
    intro h2
    have := m.fr.mode
    rw [h2] at this
    cases hx : s.fr.mode <;> rw [hx] at this <;> cases this
    exact hm hx
  have hsu : stepG C.P true { frame := fr, callers := cs ++ bot, status := .running, dying := none } w = unwind C.P true fr (cs ++ bot) none w := by
    unfold stepG
    simp only
  have hdf := m.fr.defers
  unfold unwindF at hs
  split at hs
  · -- the deferred calls of a loop's rounds
    rename_i b ds args hd
    rw [hd] at hdf
    split at hs
    · rename_i calls hl
      cases hb : Nat.ble C.base b with
      | false => rw [hb] at hs; cases hs
      | true =>
        rw [hb] at hs
        simp only [cond_true] at hs
        cases hs
        have hbb := Nat.le_of_ble_eq_true hb
        cases hfd : fr.defers with
        | nil => rw [hfd] at hdf; cases hdf
        | cons d' ds' =>
          rw [hfd] at hdf
          cases hdf with
          | cons hd1 hds =>
            obtain ⟨g, hg, rfl⟩ := hd1
            obtain ⟨g2, o', f1, f2, f3⟩ := m.sim.live _ _ hl
            rw [hg] at f1; cases f1
            cases f3 with
            | @defS _ calls' hc =>
              have hnc : ∀ c e f, Obj.deferred (some calls') ≠ .cells c e f := by intro _ _ _ h; cases h
              have nx := Nx.put m.sim hl hbb hg (o := .deferred none) (o' := .deferred none) .defN (w' := { w with heap := w.heap.setIfInBounds g.b (.deferred none) }) rfl ⟨rfl, rfl, rfl⟩
              refine go_one m (fr1 := { fr with defers := calls' ++ ds' }) (step_lone_go ?_) ⟨m.fr.fn, m.fr.tm, m.fr.nt, m.fr.todo, hc.append hds, m.fr.mode, m.fr.kind, m.fr.round⟩ nx
              rw [hsu]
              unfold unwind
              simp only [hfd]
              have hrun : (Instr.takeDeferred g.b).run C.P w = .ok calls' { w with heap := w.heap.setIfInBounds g.b (.deferred none) } := by
                simp only [Instr.takeDeferred, Sem.run_bind, run_getObj f2 hnc, Result.andThen_ok, run_setObj f2 hnc, Sem.run_pure]
              simp [hrun]
    · cases hs
  · rename_i f cap args ds hd
    rw [hd] at hdf
    cases hb : bodied C.P f with
    | false => rw [hb] at hs; cases hs
    | true =>
      rw [hb] at hs
      simp only [cond_true] at hs
      split at hs
      · rename_i fr1 hf
        cases hs
        cases hfd : fr.defers with
        | nil => rw [hfd] at hdf; cases hdf
        | cons d' ds' =>
          rw [hfd] at hdf
          cases hdf with
          | cons hd1 hds =>
            obtain ⟨f', cap', p1, p2, p3, p4⟩ := hd1
            obtain ⟨tg, as'⟩ := d'
            simp only at p1 p4
            have p2' : f' = .func f := p2
            subst p1 p2'
            have hinv := invoke_func ok hb cap' as' w
            refine ⟨ρ, Frame.enter C.P f (as' ++ cap') .deferred, { fr with defers := ds' } :: cs, w, .one (step_lone_go ?_), ⟨enter_rel hf (p4.append p3), .cons ⟨m.fr.fn, m.fr.tm, m.fr.nt, m.fr.todo, hds, m.fr.mode, m.fr.kind, m.fr.round⟩ m.cs, m.sim⟩, Nx.refl m.sim⟩
            rw [hsu]
            unfold unwind
            simp only [hfd, callDeferred]
            simp [hinv]
      · cases hs
  · cases hs
  · rename_i hd
    rw [hd] at hdf
    have hfd : fr.defers = [] := by cases hx : fr.defers with | nil => rfl | cons a b => rw [hx] at hdf; cases hdf
    split at hs
    · cases hs
    · rename_i chain hch
      split at hs
      · rename_i c rest hcs
        cases hs
        have hmo := m.fr.mode
        rw [hch] at hmo
        cases hfm : fr.mode <;> rw [hfm] at hmo <;> cases hmo
        rename_i chain' hl
        have hmcs := m.cs
        rw [hcs] at hmcs
        cases hmcs with
        | @cons _ c' _ rest' hc hr =>
          refine ⟨ρ, c'.raise chain', rest', w, .one (step_lone_go ?_), ⟨raise_rel hc hl, hr, m.sim⟩, Nx.refl m.sim⟩
          rw [hsu]
          have hcat : fr.catches C.P = false := by
            unfold Frame.catches
            split
            · rename_i htd
              exfalso
              have := m.fr.todo
              rw [htd] at this
              revert this
              generalize s.fr.todo = td
              intro this
              cases this with
              | cons hit _ => cases hit with | same h => cases h
            · rfl
          unfold unwind
          simp [hfd, hfm, hcat]
      · split at hs <;> cases hs
    · rename_i hch
      split at hs
      · cases hs
      · rename_i fn hfn
        split at hs
        · rename_i vs hvs
          obtain ⟨v', hr, hv⟩ := results_run m.sim m.fr.tm hvs
          have hmo := m.fr.mode
          rw [hch] at hmo
          cases hfm : fr.mode <;> rw [hfm] at hmo <;> cases hmo
          have hst : (stepG C.P true { frame := fr, callers := cs ++ bot, status := .running, dying := none } w).bare = (doReturn C.P true fr (cs ++ bot) none v' w).bare := by
            rw [hsu]
            unfold unwind
            simp [hfd, hfm, m.fr.fn, hfn, hr]
          split at hs
          · cases hs
          · cases hs
          · exact ret_sound m (Nx.refl m.sim) hv hst hs
        · cases hs
end
end Go.Ev
