/-
  slices.DeleteFunc at Ready's closure, walked once. No condition.
-/
import Derived.Test.YtdkgbjbfmempdaaDf
namespace Go.Proofs.Ytdkgbjbfmempdaa
open Go.ChangeShapes Go.WideShapes Go.ChangeAt Go.RowKit Go.Deep
set_option linter.unusedVariables false

theorem run_clear57 {w : World} {ty : TypeId} {b off n c : Nat} (hn : 0 < n) (hth : w.there b off (n * 3)) : ∃ zs : List Value, zs.length = n * 3 ∧
    (Builtin.clear_ #[47] ty #[.slice (some ⟨b, off, none⟩) n c]).run Try.prog w = .ok (.tuple #[]) (w.setCells b off zs) := by
  obtain ⟨zs, hzs⟩ : ∃ zs, zs = (Builtin.zeroCells #[.int .i64 0, .int .i64 0, .int .i64 0] n).toList := ⟨_, rfl⟩
  have hl : zs.length = n * 3 := by rw [hzs, Array.length_toList, size_zeroCells]; rfl
  have h1 : ∀ v ∈ zs, v.oneCell' = true := by
    intro v hv
    rw [hzs] at hv
    simp [Builtin.zeroCells] at hv
    obtain ⟨i, _, rfl⟩ := hv
    have : i % 3 = 0 ∨ i % 3 = 1 ∨ i % 3 = 2 := by omega
    rcases this with h | h | h <;> rw [h] <;> rfl
  refine ⟨zs, hl, ?_⟩
  have hst := run_storeCells_cells (P := Try.prog) b off zs 0 w (fun j hj => by simpa using (hth j (by omega)).1) (fun j hj => by simpa using (hth j (by omega)).2) h1
  simp only [Nat.add_zero] at hst
  obtain ⟨m, rfl⟩ : ∃ m, n = m + 1 := ⟨n - 1, by omega⟩
  rw [hzs] at hst ⊢
  simp [Builtin.clear_, run_underlying Try.underlying47, Value.cells, hst]
theorem wpList_clear57 {w : World} {ops : Array Oper} {rest : List Oper} {o : Oper} {ac : Act} {Q : Exit → Act → World → Prop} (hgd : o.guard = none) (s : Operand)
    (ho : o.op = .call { callee := .builtin .clear, args := #[s], argTypes := #[47] }) {b off n c : Nat} (hs : ac.eval s = .slice (some ⟨b, off, none⟩) n c) (hn : 0 < n) (hth : w.there b off (n * 3))
    (h : ∀ zs : List Value, zs.length = n * 3 → wpList Try.prog ops Q rest (ac.put o.dst (.tuple #[])) (w.setCells b off zs)) : wpList Try.prog ops Q (o :: rest) ac w := by
  refine wpList_plain hgd fun K hK => ?_
  obtain ⟨zs, hl, hr⟩ := run_clear57 (ty := o.type) (c := c) hn hth
  unfold Oper.wp
  simp [execOp, ho, resolve, invoke, builtin, hs, hr, Result.andThen]
  exact hK _ _ (h zs hl)

theorem setAll_size (vs : List Value) : ∀ (o : Nat) (cs : Array Value), (setAll cs o vs).size = cs.size := by
  induction vs with
  | nil => intro o cs; rfl
  | cons v vs ih => intro o cs; rw [setAll, ih]; simp
theorem setAll_take (vs : List Value) : ∀ (o m : Nat) (cs : Array Value), m ≤ o → (setAll cs o vs).toList.take m = cs.toList.take m := by
  induction vs with
  | nil => intro o m cs h; rfl
  | cons v vs ih =>
    intro o m cs h
    rw [setAll, ih (o + 1) m _ (by omega)]
    simp only [Array.toList_setIfInBounds]
    rw [List.take_set_of_le h]
theorem flat_set : ∀ (rs : List Rd) (i : Nat) (r : Rd), i < rs.length → ((((flat rs).set (i * 3) (.int .i64 r.id)).set (i * 3 + 1) (.int .i64 r.ix)).set (i * 3 + 2) (.int .i64 r.rd)) = flat (rs.set i r)
  | [], i, r, h => by simp at h
  | x :: l, 0, r, h => by simp [flat_cons]
  | x :: l, i + 1, r, h => by
    have ih := flat_set l i r (by simpa using h)
    rw [List.set_cons_succ, flat_cons, flat_cons, ← ih, show (i + 1) * 3 = i * 3 + 3 by omega]
    simp

/-- The list's block, whole. -/
theorem Owns.open {w : World} {B : Nat} {e : TypeId} {size : Nat} {g n cap : Nat} {xs : List Value} (h : Owns w B e size (some ⟨g, 0, none⟩) n cap xs) :
    ∃ cur, w.heap[g]? = some (.cells cur e (0, 0)) ∧ n ≤ cap ∧ cap ≤ maxLen ∧ cur.size = cap * size ∧ cur.toList.take (n * size) = xs ∧ B ≤ g := by
  rcases h.2 with ⟨h2, _⟩ | ⟨g', cap', cur, hv, hge, hg, hn, hc, hs, ht⟩
  · simp at h2
  · simp only [Value.slice.injEq, Option.some.injEq, Addr.mk.injEq] at hv
    obtain ⟨⟨rfl, _, _⟩, _, rfl⟩ := hv
    exact ⟨cur, hg, hn, hc, hs, ht, hge⟩
theorem Owns.shut {w : World} {B : Nat} {e : TypeId} {size : Nat} {g n cap : Nat} {cur : Array Value} (hg : w.heap[g]? = some (.cells cur e (0, 0))) (hn : n ≤ cap) (hc : cap ≤ maxLen) (hs : cur.size = cap * size) (hB : B ≤ g) : Owns w B e size (some ⟨g, 0, none⟩) n cap (cur.toList.take (n * size)) :=
  ⟨by rw [List.length_take, Array.length_toList, hs, Nat.min_eq_left (Nat.mul_le_mul_right _ hn)], .inr ⟨g, cap, cur, rfl, hB, hg, hn, hc, hs, rfl⟩⟩

theorem Owns.put {w : World} {B g n cap i : Nat} {rs : List Rd} (h : Owns w B 57 3 (some ⟨g, 0, none⟩) n cap (flat rs)) (hn : rs.length = n) (hi : i < n) (r : Rd) :
    Owns (w.setCells g (i * 3) [.int .i64 r.id, .int .i64 r.ix, .int .i64 r.rd]) B 57 3 (some ⟨g, 0, none⟩) n cap (flat (rs.set i r)) := by
  obtain ⟨cur, hg, hnc, hcm, hcs, ht, hB⟩ := h.open
  have hh := heap_sets [.int .i64 r.id, .int .i64 r.ix, .int .i64 r.rd] (i * 3) w cur hg
  have := Owns.shut (n := n) hh hnc hcm (by rw [setAll_size]; exact hcs) hB
  rw [← flat_set rs i r (by omega), ← ht]
  have e : (setAll cur (i * 3) [.int .i64 r.id, .int .i64 r.ix, .int .i64 r.rd]).toList.take (n * 3) = (((cur.toList.take (n * 3)).set (i * 3) (.int .i64 r.id)).set (i * 3 + 1) (.int .i64 r.ix)).set (i * 3 + 2) (.int .i64 r.rd) := by
    simp [setAll, List.take_set]
  rw [← e]
  exact this
theorem Owns.cut {w : World} {B g n cap i : Nat} {rs : List Rd} (h : Owns w B 57 3 (some ⟨g, 0, none⟩) n cap (flat rs)) (hn : rs.length = n) (hi : i ≤ n) (zs : List Value) :
    Owns (w.setCells g (i * 3) zs) B 57 3 (some ⟨g, 0, none⟩) i cap (flat (rs.take i)) := by
  obtain ⟨cur, hg, hnc, hcm, hcs, ht, hB⟩ := h.open
  have hh := heap_sets zs (i * 3) w cur hg
  have := Owns.shut (n := i) hh (by omega) hcm (by rw [setAll_size]; exact hcs) hB
  rw [setAll_take _ _ _ _ (Nat.le_refl _)] at this
  rw [← flat_take, ← ht, List.take_take, Nat.min_eq_left (Nat.mul_le_mul_right _ hi)]
  exact this

theorem ones3 (x : Rd) : (#[.int .i64 x.id, .int .i64 x.ix, .int .i64 x.rd] : Array Value).all (·.oneCell') = true := all_oneCell_toArray (one_flat [x])
theorem size57 : (Try.prog.info? 57).map (·.size) = some 3 := by kernel_rfl
theorem keep_le_take (p : Rd → Bool) (l : List Rd) (k : Nat) : (keep p (l.take k)).length ≤ k := Nat.le_trans (keep_length _ _) (List.length_take_le ..)
theorem set_take {rs : List Rd} {i : Nat} (hi : i < rs.length) (r : Rd) : (rs.set i r).take (i + 1) = rs.take i ++ [r] := by
  rw [List.take_set, List.take_succ_eq_append_getElem hi, List.set_append_right _ _ (by simp; omega)]
  simp [Nat.min_eq_left (Nat.le_of_lt hi)]
theorem set_drop {rs : List Rd} {i j : Nat} (hi : i < j) (r : Rd) : (rs.set i r).drop j = rs.drop j := by
  rw [List.drop_set_of_lt hi]
theorem getD_drop {rs l : List Rd} {j : Nat} (h : rs.drop j = l.drop j) (hj : j < l.length) (hr : rs.length = l.length) : rs.getD j default = l.getD j default := by
  have h1 := congrArg (fun x => x.getD 0 default) h
  simpa [List.getD, List.getElem?_drop] using h1
theorem drop_succ {rs l : List Rd} {j : Nat} (h : rs.drop j = l.drop j) : rs.drop (j + 1) = l.drop (j + 1) := by
  have h1 := congrArg (List.drop 1) h
  simpa [List.drop_drop] using h1

theorem Owns.there {w : World} {B g n cap i m : Nat} {xs : List Value} (h : Owns w B 57 3 (some ⟨g, 0, none⟩) n cap xs) (hi : i + m ≤ n) : w.there g (i * 3) (m * 3) := by
  obtain ⟨cur, hg, hnc, hcm, hcs, ht, hB⟩ := h.open
  refine there_of hg ?_
  rw [hcs]
  omega
/-- What DeleteFunc leaves. -/
def Left (W w : World) (B b c1 c2 c3 c4 : Nat) (sv : Value) (p : Rd → Bool) (l : List Rd) (a : Option Addr) (cap : Nat) (out : List (Int × Int)) (e : Ending) (w' : World) : Prop :=
  ∃ o' co', e = .returned (.slice a (keep p l).length cap) ∧ Owns w' B 57 3 a (keep p l).length cap (flat (keep p l)) ∧ Env w' W.heap.size b c1 c2 c3 c4 sv o' co' (out ++ toldAll p l) ∧ Kp (fun j => W.heap.size ≤ j ∨ some j = blockOf a) w w'

set_option maxHeartbeats 4000000 in
theorem deleteFunc_any {W w : World} {B b c1 c2 c3 c4 : Nat} {sv : Value} {p : Rd → Bool} {l : List Rd} {a : Option Addr} {cap : Nat} (hC : Clo W a b c1 c2 c3 c4 sv p) (hK : Kp (fun j => W.heap.size ≤ j ∨ some j = blockOf a) W w)
    (hO : Owns w B 57 3 a l.length cap (flat l)) (hal : ∀ g, blockOf a = some g → g < W.heap.size) {o : Option Addr} {co : Nat} {out : List (Int × Int)} (hE : Env w W.heap.size b c1 c2 c3 c4 sv o co out) (hout : out.length + l.length ≤ 1000) :
    Calls Try.prog 24 #[.slice a l.length cap, .func (.func 25) #[] #[.pointer (some ⟨c3, 0, none⟩), .pointer (some ⟨c4, 0, none⟩)]] w (Left W w B b c1 c2 c3 c4 sv p l a cap out) := by
  have hi := indexFunc_any hC hK hO hal hE hout
  have HC := Lib.hid hC
  have hKs := hK.size
  by_cases hn : ∃ r ∈ l, p r = true
  · have HI := Lib.hid (hi.mono (R' := fun e w' => Kp (fun j => W.heap.size ≤ j) w w' ∧ ∃ o' co', ∃ j : Nat, j < l.length ∧ e = .returned (.int .i64 j) ∧ keep p (l.take (j + 1)) = l.take j ∧ Env w' W.heap.size b c1 c2 c3 c4 sv o' co' (out ++ toldAll p (l.take (j + 1))))
      (by
        rintro e w' ⟨hk, o', co', ⟨rfl, h1, _, _⟩ | ⟨j, h1, rfl, h2, h3⟩⟩
        · obtain ⟨r, hr, hp⟩ := hn
          rw [← h1] at hr
          have := (List.mem_filter.1 hr).2
          simp [hp] at this
        · exact ⟨hk, o', co', j, h1, rfl, h2, h3⟩))
    obtain ⟨r0, hr0, _⟩ := hn
    have HK0 := Lib.hid hK
    have hpos := List.length_pos_of_mem hr0
    obtain ⟨g, rfl, _⟩ := hO.reads 0 hpos
    have hg := hal g rfl
    have HO := Lib.hid hO
    clear hC hO hE hi hr0
    go_enter Try.func24, Try.ntmps24
    go_wp2_with (go_at_call 36; refine HI.out.mono ?_; rintro e w1 ⟨hk1, o1, co1, j1, hj1, rfl, hkeep1, hE1⟩)
    go_loopw [5, 6] (fun i j wr => ∃ (kj : Nat) (rs : List Rd) (o' : Option Addr) (co' : Nat), j = .int .i64 kj ∧ kj ≤ l.length ∧ i = .int .i64 (keep p (l.take kj)).length ∧ (keep p (l.take kj)).length < kj ∧ rs.length = l.length ∧
      rs.take (keep p (l.take kj)).length = keep p (l.take kj) ∧ rs.drop kj = l.drop kj ∧ Owns wr B 57 3 (some ⟨g, 0, none⟩) l.length cap (flat rs) ∧ Env wr W.heap.size b c1 c2 c3 c4 sv o' co' (out ++ toldAll p (l.take kj)) ∧ Kp (fun j => W.heap.size ≤ j ∨ j = g) w wr) (fun _ j _ => l.length - (intOf j).toNat)
    case atStart =>
      have hl1 : (keep p (l.take (j1 + 1))).length = j1 := by rw [hkeep1, List.length_take]; omega
      exact ⟨j1 + 1, l, o1, co1, by go_num, by omega, by rw [hl1], by omega, rfl, by rw [hl1, hkeep1], rfl, HO.out.kp hk1 (fun g' hg' h => by cases hg'; exact absurd h (Nat.not_le.2 hg)), hE1, hk1.mono (fun _ _ h => Or.inl h)⟩
    case round =>
      clear hE1 hk1 hkeep1 hj1 hK hKs
      obtain ⟨kj, rs, o', co', rfl, hkj, rfl, hki, hrl, htk, hdr, hO, hE, hKr⟩ := hrel
      have HKR := Lib.hid hKr
      by_cases hlt : kj < l.length
      · have hks := keep_succ p l kj hlt
        have hts := toldAll_succ p l kj hlt
        have hout' : (out ++ toldAll p (l.take kj)).length ≤ 1000 := by
          have := toldAll_length p (l.take kj)
          have := List.length_take_le kj l
          simp
          omega
        obtain ⟨_, hge, e0, e1, e2⟩ := hO.reads kj (by omega)
        cases hge
        rw [getD_drop hdr hlt hrl] at e0 e1 e2
        generalize l.getD kj default = x at e0 e1 e2 hks hts
        have hcl := HC.out _ o' co' _ x (((HK0.out.andThen hKr (fun j _ h => h.imp (fun h => h) (fun e => by rw [e]; rfl))).alloc (.cells #[.int .i64 x.id, .int .i64 x.ix, .int .i64 x.rd] 57))) (hE.no ((Kp.refl (fun _ => False) wr).alloc _)) hout'
        have hft : ∀ j, (j = c4 ∨ some j = blockOf o') → W.heap.size ≤ j ∧ j < wr.heap.size := hE.foot
        have hgw : g < wr.heap.size := World.block_lt_of_cell? _ _ e0
        have hKs2 := hKr.size
        have HFT := Lib.hid hft
        have HCL := Lib.hid hcl
        have HKS := Lib.hid hks
        have HTS := Lib.hid hts
        have HOO := Lib.hid hO
        have HTK := Lib.hid htk
        have HDR := Lib.hid hdr
        have HRL := Lib.hid hrl
        obtain ⟨ki, hki0⟩ : ∃ ki, ki = (keep p (l.take kj)).length := ⟨_, rfl⟩
        rw [← hki0] at hki ⊢
        have HKI := Lib.hid hki0
        have hkI : (kj : Int) < (l.length : Int) := by omega
        have hkI0 : (0 : Int) ≤ (kj : Int) := by omega
        have hkiI : (ki : Int) < (l.length : Int) := by omega
        have hkiI0 : (0 : Int) ≤ (ki : Int) := by omega
        clear hcl hft hks hts hO hE hKr htk hdr hrl hki0 hout'
        generalize p x = px at HCL HKS HTS
        cases px with
        | true =>
          go_wp2_with (go_at_call 25; refine HCL.out.mono ?_; rintro e w2 ⟨o2, co2, rfl, hE2, hk2⟩)
          go_roundw
          case rel =>
            have hk2' : Kp (fun j => W.heap.size ≤ j ∧ j < wr.heap.size) wr w2 := ((Kp.refl (fun j => W.heap.size ≤ j ∧ j < wr.heap.size) wr).alloc _).andThen hk2 (fun j _ h => HFT.out j h)
            have hks : keep p (l.take (kj + 1)) = keep p (l.take kj) := by simpa using HKS.out
            (repeat apply Exists.intro); exact ⟨⟨kj + 1, rs, o2, co2, by go_num, by omega, by rw [hks, ← HKI.out], by rw [hks, ← HKI.out]; omega, HRL.out, by rw [hks]; exact HTK.out, drop_succ HDR.out, HOO.out.kp hk2' (fun g' hg' h => by cases hg'; exact absurd h.1 (Nat.not_le.2 hg)), by rw [HTS.out]; simpa using hE2, HKR.out.andThen hk2' (fun j _ h => Or.inl h.1)⟩, rfl⟩
          case measure => simp [intOf]; omega
        | false =>
          go_wp2_with (first | (go_at_call 25; refine HCL.out.mono ?_; rintro e w2 ⟨o2, co2, rfl, hE2, hk2⟩; have hk2' : Kp (fun j => W.heap.size ≤ j ∧ j < wr.heap.size) wr w2 := ((Kp.refl (fun j => W.heap.size ≤ j ∧ j < wr.heap.size) wr).alloc _).andThen hk2 (fun j _ h => HFT.out j h); have hO2 := Lib.hid (HOO.out.kp hk2' (fun g' hg' h => by cases hg'; exact absurd h.1 (Nat.not_le.2 hg))); have hth := Lib.hid (hO2.out.there (i := ki) (m := 1) (by omega)); have hbx := Lib.hid (hk2.heap (heap_new wr (.cells #[.int .i64 x.id, .int .i64 x.ix, .int .i64 x.rd] 57)) (fun h => by have := (HFT.out _ h).2; omega)); have q0 := cell_of hbx.out 0 (v := .int .i64 x.id) rfl; have q1 := cell_of hbx.out 1 (v := .int .i64 x.ix) rfl; have q2 := cell_of hbx.out 2 (v := .int .i64 x.rd) rfl) | (refine wpList_store_mid rfl 57 _ _ rfl g (ki * 3) #[.int .i64 x.id, .int .i64 x.ix, .int .i64 x.rd] rfl rfl hth.out size57 (ones3 x) ?_))
          go_roundw
          case rel =>
            have hks : keep p (l.take (kj + 1)) = keep p (l.take kj) ++ [x] := by simpa using HKS.out
            have hst : Kp (fun j => j = g) w2 (w2.setCells g (ki * 3) [.int .i64 x.id, .int .i64 x.ix, .int .i64 x.rd]) := Kp.setCells (S := fun j => j = g) (Or.inl rfl) _ _ _ (Kp.refl _ _)
            have hlen : (keep p (l.take (kj + 1))).length = ki + 1 := by rw [hks, List.length_append, ← HKI.out]; rfl
            have htk : (rs.set ki x).take (ki + 1) = keep p (l.take (kj + 1)) := by
              have h1 := HTK.out
              rw [← HKI.out] at h1
              rw [set_take (by rw [HRL.out]; omega), h1, hks]
            (repeat apply Exists.intro); exact ⟨⟨kj + 1, rs.set ki x, o2, co2, by go_num, by omega, by rw [hlen]; go_num, by rw [hlen]; omega, by rw [List.length_set]; exact HRL.out, by rw [hlen]; exact htk, by rw [set_drop (by omega)]; exact drop_succ HDR.out, hO2.out.put HRL.out (by omega) x, by rw [HTS.out]; exact (by simpa using hE2 : Env w2 W.heap.size b c1 c2 c3 c4 sv o2 co2 (out ++ (toldAll p (l.take kj) ++ told false x))).kp hst (fun j h1 _ e => by omega), (HKR.out.andThen hk2' (fun j _ h => Or.inl h.1)).andThen hst (fun j _ h => Or.inr h)⟩, rfl⟩
          case measure => simp [intOf]; omega
      · have e : l.take kj = l := List.take_of_length_le (by omega)
        rw [e] at hki htk hE ⊢
        have hth := hO.there (i := (keep p l).length) (m := l.length - (keep p l).length) (by omega)
        have hct := hO.cut hrl (i := (keep p l).length) (by omega)
        rw [htk] at hct
        obtain ⟨ki, hki0⟩ : ∃ ki, ki = (keep p l).length := ⟨_, rfl⟩
        have hKI := Lib.hid hki0
        unfold Left
        rw [← hki0] at hki hth hct ⊢
        have HTH := Lib.hid hth
        have HCT := Lib.hid hct
        have HE := Lib.hid hE
        have hpos2 : 0 < l.length - ki := by omega
        obtain ⟨_, _, hnc, _⟩ := hO.open
        have hkc : ki < cap := by omega
        have hkc2 : (ki : Int) < (cap : Int) := by omega
        obtain ⟨zs, hzl, hrun⟩ := run_clear57 (ty := 0) (c := cap - ki) hpos2 hth
        have hcut := HCT.out zs
        have hst : Kp (fun j => j = g) wr (wr.setCells g (ki * 3) zs) := Kp.setCells (S := fun j => j = g) (Or.inl rfl) _ _ _ (Kp.refl _ _)
        have hEz := HE.out.kp hst (fun j h1 _ e => by omega)
        have HEZ := Lib.hid hEz
        have HCU := Lib.hid hcut
        have HST := Lib.hid hst
        clear hth hct hE hO hki0 htk hdr e hKr hcut hst hEz hzl
        go_wp2_with fail
        go_ret
        refine ⟨o', co', by rw [← hKI.out]; rfl, by rw [← hKI.out]; exact HCU.out, HEZ.out, (HKR.out.mono (S' := fun j => W.heap.size ≤ j ∨ some j = blockOf (some ⟨g, 0, none⟩)) (fun j _ h => h.imp (fun h => h) (fun e => by rw [e]; rfl))).andThen HST.out (fun j _ e => Or.inr (by rw [e]; rfl))⟩
  · have hall : ∀ r ∈ l, p r = false := fun r hr => by
      cases h : p r with
      | false => rfl
      | true => exact absurd ⟨r, hr, h⟩ hn
    have hkl : ∀ m, keep p (l.take m) = l.take m := fun m => List.filter_eq_self.2 fun r hr => by rw [hall r (List.mem_of_mem_take hr)]; rfl
    have HI := Lib.hid (hi.mono (R' := fun e w' => Kp (fun j => W.heap.size ≤ j) w w' ∧ ∃ o' co', e = .returned (.int .i64 (-1)) ∧ keep p l = l ∧ toldAll p l = [] ∧ Env w' W.heap.size b c1 c2 c3 c4 sv o' co' out)
      (by
        rintro e w' ⟨hk, o', co', ⟨rfl, h1, h2, h3⟩ | ⟨j, h1, rfl, h2, h3⟩⟩
        · exact ⟨hk, o', co', rfl, h1, h2, h3⟩
        · rw [hkl] at h2
          have := congrArg List.length h2
          simp at this
          omega))
    have HO := Lib.hid hO
    clear hC hO hE hi hall hkl
    go_enter Try.func24, Try.ntmps24
    go_wp2_with (go_at_call 36; refine HI.out.mono ?_; rintro e w1 ⟨hk1, o1, co1, rfl, h1, h2, hE1⟩; have H1 := Lib.hid h1; have H2 := Lib.hid h2; clear h1 h2)
    go_ret
    refine ⟨o1, co1, by rw [H1.out]; rfl, by rw [H1.out]; exact HO.out.kp hk1 (fun g hg h => by have := hal g hg; omega), by rw [H2.out]; simpa using hE1, hk1.mono (fun _ _ h => Or.inl h)⟩
end Go.Proofs.Ytdkgbjbfmempdaa
