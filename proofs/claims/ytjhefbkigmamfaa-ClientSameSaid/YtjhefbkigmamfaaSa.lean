/-
  ClientSame: for every int, every list of servers and every list of calls the law returns true and leaves its arguments as they were. No condition.
-/
import Derived.Test.YtjhefbkigmamfaaJw
import Derived.Deep.CutBlock
import Derived.Deep.DeepCutAuto
namespace Go.Proofs.Ytjhefbkigmamfaa.clientSame
open Go.ChangeShapes Go.WideShapes Go.ChangeAt Go.RowKit clientApart
set_option linter.unusedVariables false

theorem row_keep {W w : World} {B : Nat} {a : Option Addr} {vs : List Value} (h : Row W a vs) (hB : B = W.heap.size) (hk : Kp (fun j => B ≤ j) W w) : Row w a vs := by
  intro i v hv
  obtain ⟨b, off, rfl, hc⟩ := h i v hv
  have hb : b < W.heap.size := World.block_lt_of_cell? (a := ⟨b, off + i, none⟩) W hc
  exact ⟨b, off, rfl, (hk.cell (p := ⟨b, off + i, none⟩) hb (fun e => by have : B ≤ b := e; omega)).trans hc⟩

theorem jw_of {w w' : World} {B b G Q : Nat} {A : Int} {t k sq : Nat} {ss : Int} {o : OrdV} (s : SW w' B b (NN G Q o) A t k sq ss o) (m : IMap w' G (ms A t)) (q : w.heap[Q]? = some (.cells o.cells.toArray 32 (0, 0))) (r : Row w o.da (bytes o.dl)) (ne : G ≠ Q)
    (da : ∀ g, blockOf o.da = some g → g ≠ G ∧ g ≠ Q ∧ g < w.heap.size ∧ B ≤ g) (hG : B ≤ G) (hQ : B ≤ Q) (hk : Kp (fun j => j = G) w w') : JW w' B b G Q A t k sq ss o :=
  ⟨s, m, hk.heap q (fun e => ne e.symm), r.kp hk (fun g hg e => (da g hg).1 e), ne, fun g hg => ⟨(da g hg).1, (da g hg).2.1, Nat.lt_of_lt_of_le (da g hg).2.2.1 hk.size, (da g hg).2.2.2⟩, hG, hQ⟩

set_option maxRecDepth 100000 in
set_option maxHeartbeats 4000000 in
theorem walk (i0 : Int) (a : Option Addr) (zs : List Int) (c : Nat) (oa : Option Addr) (l : List OpE) (oc : Nat) (W : World) (hr : Row W a (ints zs)) (hm : zs.length ≤ 17592186043904) (ho : Ops W oa l) (hs : ∀ e ∈ l, e.Sz) :
    Calls Try.prog 8 #[.int .i64 i0, .slice a zs.length c, .slice oa l.length oc] W fun e w' => e = .returned (.bool true) ∧ Below W.heap.size W w' := by
  have HR := Lib.hid hr
  have HM := Lib.hid hm
  have HO := Lib.hid ho
  have HS := Lib.hid hs
  have w9 := md_in i0 1000 (by omega) (by omega)
  have l9 := md_lo i0 1000 (by omega)
  have h9 := md_hi i0 1000 (by omega)
  unfold md at l9 h9
  have w91 : IntKind.i64.wrap (1 + (i0.tmod 1000 + 1000).tmod 1000) = 1 + (i0.tmod 1000 + 1000).tmod 1000 := IntWalk.i64_in _ (by omega)
  have HL9 := Lib.hid l9
  have HH9 := Lib.hid h9
  clear l9 h9 hr hm ho hs
  have hmm := @run_makeMap Try.prog
  obtain ⟨A, hA⟩ : ∃ A : Int, A = 1 + (i0.tmod 1000 + 1000).tmod 1000 := ⟨_, rfl⟩
  have hA1 : 1 ≤ A := by have := HL9.out; omega
  have hA2 : A ≤ 1000 := by have := HH9.out; omega
  replace w91 := w91.trans hA.symm
  have HA := Lib.hid hA
  clear hA HL9 HH9
  cases hg : rightS zs with
  | false =>
    have HB := Lib.hid (new_bad (id := A) (pat := 3) (c := c) HR.out HM.out (fun h => by rw [h.2.2.1] at hg; cases hg))
    clear hg
    go_enter Try.func8, Try.ntmps8
    go_wp2_with fail
    refine HB.out.mono ?_
    rintro e w1 ⟨rfl, hk1⟩
    go_wp2_with (first | (go_at_call 10; refine (num_any _ _).mono ?_; rintro e w' ⟨rfl, rfl⟩) | (go_at_call 11; refine (knows_any _).mono ?_; rintro e w2 ⟨rfl, hk2⟩))
    go_ret
    exact ⟨rfl, (hk1.trans hk2).no.belowW⟩
  | true =>
    have HN := Lib.hid (new_good (id := A) (pat := 3) (c := c) HR.out ⟨hA1, hA2, hg, by decide, by decide⟩)
    obtain ⟨B, hB⟩ : ∃ B, B = W.heap.size := ⟨_, rfl⟩
    have HB := Lib.hid hB
    clear hg hB
    go_enter Try.func8, Try.ntmps8
    go_wp2_with fail
    refine HN.out.mono ?_
    rintro e w1 ⟨R, b, sa, sc, rfl, k1, hk1⟩
    rw [← HB.out] at k1
    have K1 := Lib.hid k1
    have HK1 := Lib.hid hk1
    clear k1 hk1
    go_wp2_with (first | (go_at_call 10; refine (num_same _ _).mono ?_; rintro e w' ⟨rfl, rfl⟩))
    have s2 := (new_sw K1.out ord0 0).other (N' := fun j => w1.heap.size ≤ j) (fun j h => .inr h)
    have hka := ((Kp.refl (fun _ => False) w1).alloc (.map #[] 0)).alloc (.cells #[.int .i64 0, .int .i64 0, .int .i64 0, .slice none 0 0] 32)
    have hz : (w1.alloc (.map #[] 0)).heap.size = w1.heap.size + 1 := by simp
    have hBw : B ≤ w1.heap.size := by rw [HB.out]; exact HK1.out.size
    have j2 : JW ((w1.alloc (.map #[] 0)).alloc (.cells #[.int .i64 0, .int .i64 0, .int .i64 0, .slice none 0 0] 32)) B b w1.heap.size (w1.heap.size + 1) A 0 0 0 0 ord0 := by
      refine ⟨(s2.kp hka (fun j h => h.elim)).other (fun j h => ?_), ?_, ?_, Row.nil _ _, by omega, (fun g hg => by cases hg), hBw, by omega⟩
      · rcases h with e | e | e
        · exact .inl (Nat.le_of_eq e.symm)
        · exact .inl (by rw [e]; exact Nat.le_succ _)
        · cases e
      · exact (imap_made w1).kp ((Kp.refl (fun _ => False) _).alloc _) (fun h => h)
      · have h := heap_new (w1.alloc (.map #[] 0)) (.cells #[.int .i64 0, .int .i64 0, .int .i64 0, .slice none 0 0] 32)
        rw [hz] at h
        exact h
    have HK2 := Lib.hid (show Kp (fun j => B ≤ j) W _ from (HK1.out.trans hka).no)
    have J2 := Lib.hid j2
    clear s2 hka hz j2 K1 HK1
    generalize (w1.alloc (.map #[] 0)).alloc (.cells #[.int .i64 0, .int .i64 0, .int .i64 0, .slice none 0 0] 32) = w2 at J2 HK2 ⊢
    generalize w1.heap.size = G at J2 hBw ⊢
    go_wp2_with fail
    go_loopw [11, 12, 13] (fun x y q wr => ∃ (i t sq : Nat) (ss : Int) (o : OrdV), x = .int .i64 sq ∧ y = .int .i64 ss ∧ q = .int .i64 i ∧ i ≤ l.length ∧ i ≤ 200 ∧ t ≤ i ∧ sq ≤ i ∧ JW wr B b G (G + 1) A t 0 sq ss o ∧ Kp (fun j => B ≤ j) W wr) (fun _ _ q _ => 200 - (intOf q).toNat)
    case atStart => exact ⟨0, 0, 0, 0, ord0, rfl, rfl, rfl, Nat.zero_le _, by decide, by decide, by decide, J2.out, HK2.out⟩
    case round =>
      clear J2 HK2
      obtain ⟨i, t, sq, ss, o, rfl, rfl, rfl, hi, hi2, hti, hsi, hj, hK⟩ := hrel
      have HJ := Lib.hid hj
      have HK := Lib.hid hK
      clear hj hK
      by_cases hlt : i < l.length ∧ i < 200
      · obtain ⟨e, he⟩ : ∃ e, e = l[i] := ⟨_, rfl⟩
        have hget : l[i]? = some e := by rw [List.getElem?_eq_getElem hlt.1, he]
        have hsz := HS.out e (by rw [he]; exact List.getElem_mem hlt.1)
        obtain ⟨kind, ⟨ok, of, om, da, dl, dc⟩, ⟨ai, ae, as_, an, ra, rl, rc, al⟩⟩ := e
        obtain ⟨⟨ob, off, rfl, hob, hcells⟩, hIn⟩ := HO.out i _ hget
        have key : ∀ j u, (OpE.cells ⟨kind, ⟨ok, of, om, da, dl, dc⟩, ⟨ai, ae, as_, an, ra, rl, rc, al⟩⟩)[j]? = some u → wr.cell? ⟨ob, off + i * 11 + j, none⟩ = some u := fun j u hu =>
          (HK.out.cell (p := ⟨ob, off + i * 11 + j, none⟩) hob (by show ¬ B ≤ ob; rw [HB.out]; omega)).trans (hcells j u hu)
        have c0 : wr.cell? ⟨ob, off + i * 11, none⟩ = some (.int .i64 kind) := key 0 _ rfl
        have c1 := key 1 (.int .i64 ok) rfl
        have c2 := key 2 (.int .i64 of) rfl
        have c3 := key 3 (.int .i64 om) rfl
        have c4 := key 4 (.slice da dl.length dc) rfl
        have c5 := key 5 (.int .i64 ai) rfl
        have c6 := key 6 (.int .i64 ae) rfl
        have c7 := key 7 (.int .i64 as_) rfl
        have c8 := key 8 (.int .i64 an) rfl
        have c9 := key 9 (.int .i64 al) rfl
        have c10 := key 10 (.slice ra rl.length rc) rfl
        have HIN := Lib.hid hIn
        have HSZ := Lib.hid hsz
        have hiI : (i : Int) < (l.length : Int) := by omega
        have hi2I : (i : Int) < 200 := by omega
        have hi0 : (0 : Int) ≤ (i : Int) := by omega
        clear hget hsz hIn he key hcells
        go_upto_block 2 with fail
        have hX := heap_new wr (.cells #[.int .i64 kind, .int .i64 ok, .int .i64 of, .int .i64 om, .slice da dl.length dc, .int .i64 ai, .int .i64 ae, .int .i64 as_, .int .i64 an, .int .i64 al, .slice ra rl.length rc] 58)
        have hka := (Kp.refl (fun _ => False) wr).alloc (.cells #[.int .i64 kind, .int .i64 ok, .int .i64 of, .int .i64 om, .slice da dl.length dc, .int .i64 ai, .int .i64 ae, .int .i64 as_, .int .i64 an, .int .i64 al, .slice ra rl.length rc] 58)
        have HJ3 := Lib.hid (HJ.out.no hka)
        have HK3 := Lib.hid (HK.out.trans hka.no)
        have HX := Lib.hid hX
        have HSX := Lib.hid ((HJ.out.s.other (N' := fun j => NN G (G + 1) o j ∨ j = wr.heap.size) (fun j h => h.imp_right (fun e => Nat.le_of_eq e.symm))).no hka)
        clear hX hka HJ HK c0 c1 c2 c3 c4 c5 c6 c7 c8 c9 c10
        generalize wr.alloc (.cells #[.int .i64 kind, .int .i64 ok, .int .i64 of, .int .i64 om, .slice da dl.length dc, .int .i64 ai, .int .i64 ae, .int .i64 as_, .int .i64 an, .int .i64 al, .slice ra rl.length rc] 58) = w3 at HX HJ3 HK3 HSX ⊢
        generalize wr.heap.size = X at HX HSX ⊢
        go_cut [11, 12] (fun x y wx => ∃ (k sq' : Nat) (ss' : Int) (o' : OrdV), x = .int .i64 sq' ∧ y = .int .i64 ss' ∧ k ≤ 1 ∧ sq' ≤ i + 1 ∧ JW wx B b G (G + 1) A t k sq' ss' o' ∧ Kp (fun j => B ≤ j) W wx)
        case first =>
          by_cases h0 : kind = 0
          · subst h0
            have x1 := cell_of HX.out 1 (v := .int .i64 ok) rfl
            have x2 := cell_of HX.out 2 (v := .int .i64 of) rfl
            have x3 := cell_of HX.out 3 (v := .int .i64 om) rfl
            have x4 := cell_of HX.out 4 (v := .slice da dl.length dc) rfl
            have HD3 := Lib.hid (row_keep HIN.out.d HB.out HK3.out)
            have HDM := Lib.hid (show dl.length ≤ 140737488355328 from by have := HSZ.out.d; dsimp only at this; omega)
            go_wp2_with fail
            refine (order_any ok of om da dl dc HD3.out HDM.out).mono ?_
            rintro e w4 ⟨na, nc, rfl, ho4, hk4⟩
            clear x1 x2 x3 x4
            have hbn : ∀ g, blockOf na = some g → g ≠ b := fun g hg e => by have h1 := (ho4.from hg).1; have h2 := HJ3.out.s.lt; omega
            have hsx4 := HSX.out.no hk4
            have HX4 := Lib.hid (hk4.heap HX.out (fun h => h))
            have HJ4 := Lib.hid (HJ3.out.no hk4)
            have HK4 := Lib.hid (HK3.out.trans hk4.no)
            have HDO := Lib.hid (do_sw hsx4 (fun j h => h.elim (HJ4.out.lt j) (fun e => by rw [e]; exact lt_of_block HX4.out)) (by omega) (by omega) ok of om na dl nc ho4.row HDM.out hbn)
            clear ho4 hk4 hbn hsx4
            go_wp2_with fail
            refine HDO.out.mono ?_
            rintro e w5 (⟨E, hE, rfl, h5, hk5⟩ | ⟨rfl, ⟨s2, h5, hS5⟩, hk5⟩)
            · have HJ5 := Lib.hid (HJ4.out.no hk5)
              have HK5 := Lib.hid (HK4.out.trans hk5.no)
              have hEb : (E == 0) = false := by simpa using hE
              clear h5 hk5 HDO hE
              go_wp2_with (go_at_call 10; refine (num_same _ _).mono ?_; rintro e w' ⟨rfl, rfl⟩)
              go_meet
              exact ⟨0, sq, ss, o, rfl, rfl, by omega, by omega, HJ5.out, HK5.out⟩
            · have HX5 := Lib.hid (hk5.heap HX4.out (fun h => h.2 (.inr rfl)))
              have HK5 := Lib.hid (HK4.out.trans (hk5.mono (fun j _ h => h.1)))
              have hk5' := hk5.mono (S' := fun j => B ≤ j ∧ ¬ NN G (G + 1) o j) (fun j _ h => ⟨h.1, fun e => h.2 (.inl e)⟩)
              have HQ5 := Lib.hid (hk5'.heap HJ4.out.q (fun e => e.2 (.inr (.inl rfl))))
              have HD5 := Lib.hid (row_keep HIN.out.d HB.out HK5.out)
              have HKA := Lib.hid hk5'
              have H5 := Lib.hid (h5.other (N' := NN G (G + 1) o) (fun j h => .inl (.inl h)))
              have HS5 := Lib.hid hS5
              have x1 := cell_of HX5.out 1 (v := .int .i64 ok) rfl
              have x2 := cell_of HX5.out 2 (v := .int .i64 of) rfl
              have x3 := cell_of HX5.out 3 (v := .int .i64 om) rfl
              have x4 := cell_of HX5.out 4 (v := .slice da dl.length dc) rfl
              clear h5 hk5 hk5' hS5 HDO
              go_wp2_with (go_at_call 10; refine (num_same _ _).mono ?_; rintro e w' ⟨rfl, rfl⟩)
              refine (order_any ok of om da dl dc HD5.out HDM.out).mono ?_
              rintro e w6 ⟨na2, nc2, rfl, ho6, hk6⟩
              clear x1 x2 x3 x4
              have HQ6 := Lib.hid (hk6.heap HQ5.out (fun h => h))
              have hj7 := JW.take HJ4.out HKA.out H5.out ho6 hk6 (by have := HK4.out.size; have := HB.out; omega)
              have HJ7 := Lib.hid hj7.1
              have HK57 := Lib.hid hj7.2
              have HK7 := Lib.hid (HK5.out.trans (hj7.2.mono (fun j _ (e : j = G + 1) => by omega)))
              have HS7 := Lib.hid (HS5.out _ _ hj7.2 (fun j (e : j = G + 1) => .inl (.inl (.inr (.inl e)))))
              clear hj7 ho6 hk6 HKA H5 HS5
              go_wp2_with (refine wpList_store_row rfl 32 _ _ rfl (G + 1) _ rfl rfl 32 _ HQ6.out (by kernel_rfl) rfl (by simp [Value.oneCell']) ?_; refine Stop.mk ?_)
              unfold Stop
              generalize w6.setRow (G + 1) #[.int .i64 ok, .int .i64 of, .int .i64 om, .slice na2 dl.length nc2] = w7 at HJ7 HK57 HK7 HS7 ⊢
              have q0 := cell_of HJ7.out.q 0 (v := .int .i64 ok) rfl
              by_cases h2 : ok = 2
              · subst h2
                go_wp2_with (go_at_call 23; refine HS7.out.mono ?_; rintro e w' ⟨rfl, rfl⟩)
                go_meet
                exact ⟨1, sq + 1, s2, _, by go_num, rfl, by omega, by omega, HJ7.out, HK7.out⟩
              · have hb2 : (ok == 2) = false := by simpa using h2
                have HJ7' := Lib.hid (show JW w7 B b G (G + 1) A t 1 sq s2 ⟨ok, of, om, na2, dl, nc2⟩ by have h := HJ7.out; rw [if_neg h2] at h; exact h)
                clear h2 HJ7
                go_wp2_with (go_at_call 23; refine HS7.out.mono ?_; rintro e w' ⟨rfl, rfl⟩)
                go_meet
                exact ⟨1, sq, s2, _, rfl, rfl, by omega, by omega, HJ7'.out, HK7.out⟩
          · by_cases h15 : kind = 1 ∨ kind = 5
            · have x5 := cell_of HX.out 5 (v := .int .i64 ai) rfl
              have x6 := cell_of HX.out 6 (v := .int .i64 ae) rfl
              have x7 := cell_of HX.out 7 (v := .int .i64 as_) rfl
              have x8 := cell_of HX.out 8 (v := .int .i64 an) rfl
              have x9 := cell_of HX.out 9 (v := .int .i64 al) rfl
              have x10 := cell_of HX.out 10 (v := .slice ra rl.length rc) rfl
              have HRM := Lib.hid (show rl.length * 24 ≤ 140737488355328 from by have := HSZ.out.r; dsimp only at this; omega)
              have HRI := Lib.hid (show ∀ r ∈ rl, r.d.length ≤ 140737488355328 from fun r hr => by have := HSZ.out.i r hr; omega)
              have ht200 : (t : Int) ≤ 200 := by omega
              rcases h15 with h15 | h15
              all_goals
                (subst h15
                 clear h0
                 go_upto_region 22 with fail
                 have hk4 := (Kp.refl (fun _ => False) w3).alloc (.cells #[.int .i64 ai, .int .i64 ae, .int .i64 as_, .int .i64 an, .int .i64 al, .slice ra rl.length rc] 56)
                 have hY := heap_new w3 (.cells #[.int .i64 ai, .int .i64 ae, .int .i64 as_, .int .i64 an, .int .i64 al, .slice ra rl.length rc] 56)
                 have hy3 : X < w3.heap.size := lt_of_block HX.out
                 have HS4 := Lib.hid ((HJ3.out.s.other (N' := fun j => NN G (G + 1) o j ∨ j = w3.heap.size) (fun j h => h.imp_right (fun e => Nat.le_of_eq e.symm))).no hk4)
                 have HJ4 := Lib.hid (HJ3.out.no hk4)
                 have HK4 := Lib.hid (HK3.out.trans hk4.no)
                 have HY := Lib.hid hY
                 have HNY := Lib.hid (show (∀ j, NN G (G + 1) o j → j < w3.heap.size) ∧ B ≤ w3.heap.size from ⟨HJ3.out.lt, by have := HK3.out.size; have := HB.out; omega⟩)
                 clear hk4 hY x5 x6 x7 x8 x9 x10 hy3 HSX
                 generalize w3.alloc (.cells #[.int .i64 ai, .int .i64 ae, .int .i64 as_, .int .i64 an, .int .i64 al, .slice ra rl.length rc] 56) = w4 at HS4 HJ4 HK4 HY ⊢
                 generalize w3.heap.size = Y at HS4 HY HNY ⊢
                 have f0 := free_of HY.out 0
                 have hy0 := cell_of HY.out 0 (v := .int .i64 ai) rfl
                 go_upto_region 23 with (go_at_call 16; refine (tries_sw HS4.out).mono ?_; rintro e w' ⟨rfl, rfl⟩)
                 have hk5 : Kp (fun j => j = Y) w4 (w4.setCell ⟨Y, 0, none⟩ (.int .i64 (A * 1000000 + t))) := (Kp.refl (fun j => j = Y) w4).setCell (p := ⟨Y, 0, none⟩) (.inl rfl) _
                 have hY5 := heap_set HY.out 0 (.int .i64 (A * 1000000 + t))
                 have HS5 := Lib.hid (HS4.out.kp hk5 (fun j e => .inl (.inr e)))
                 have hj5 := HJ4.out.step (hk5.mono (fun j _ (e : j = Y) => ⟨by rw [e]; exact HNY.out.2, fun h => by have := HNY.out.1 j h; omega⟩)) (HS5.out.other (N' := NN G (G + 1) o) (fun j h => .inl (.inl h)))
                 have HJ5 := Lib.hid hj5
                 have HK5 := Lib.hid (HK4.out.trans (hk5.mono (fun j _ (e : j = Y) => by rw [e]; exact HNY.out.2)))
                 have y0 := cell_of hY5 0 (v := .int .i64 (A * 1000000 + t)) rfl
                 have y1 := cell_of hY5 1 (v := .int .i64 ae) rfl
                 have y2 := cell_of hY5 2 (v := .int .i64 as_) rfl
                 have y3 := cell_of hY5 3 (v := .int .i64 an) rfl
                 have y4 := cell_of hY5 4 (v := .int .i64 al) rfl
                 have y5 := cell_of hY5 5 (v := .slice ra rl.length rc) rfl
                 clear hk5 hj5 hY5 HS4 HJ4 HK4 HY f0 hy0
                 generalize w4.setCell ⟨Y, 0, none⟩ (.int .i64 (A * 1000000 + t)) = w5 at HS5 HJ5 HK5 y0 y1 y2 y3 y4 y5 ⊢
                 go_wp2_with fail
                 refine (answer_any _ ae as_ an al ra rl rc (row_keep HIN.out.r HB.out HK5.out) (fun r hr => ⟨row_keep (HIN.out.i r hr).1 HB.out HK5.out, HRI.out r hr⟩) HRM.out).mono ?_
                 rintro e w6 ⟨na, new, nc, rfl, hnl, hcp, hrw, _, hk6⟩
                 have HJ6 := Lib.hid (HJ5.out.no hk6)
                 have HK6 := Lib.hid (HK5.out.trans hk6.no)
                 have HH := Lib.hid (heard_sw HJ6.out.s HJ6.out.lt (by omega) ⟨A * 1000000 + t, ae, as_, an, na, new, nc, al⟩ rfl hrw (fun r hr => ⟨(hcp.row r hr).1, by
                    obtain ⟨k, hk, hke⟩ := List.mem_iff_getElem.1 hr
                    obtain ⟨r0, h0, h1⟩ := hcp.same k r (by rw [List.getElem?_eq_getElem hk, hke])
                    rw [h1]; exact HRI.out r0 (List.mem_of_getElem? h0)⟩) (by rw [hnl]; exact HRM.out))
                 clear y0 y1 y2 y3 y4 y5 hnl hcp hrw hk6
                 go_wp2_with fail
                 refine HH.out.mono ?_
                 rintro e w7 ⟨⟨E, rfl⟩, ⟨k, hk1, h7⟩, hk7⟩
                 have HJ7 := Lib.hid (HJ6.out.step hk7 h7)
                 have HK7 := Lib.hid (HK6.out.trans (hk7.mono (fun j _ h => h.1)))
                 clear h7 hk7 HH
                 go_wp2_with fail
                 go_meet
                 exact ⟨k, sq, ss, o, rfl, rfl, hk1, by omega, HJ7.out, HK7.out⟩)
            · by_cases h2 : kind = 2
              · subst h2
                clear h0 h15
                go_wp2_with fail
                refine (tick_sw HJ3.out.s HJ3.out.lt (by omega)).mono ?_
                rintro e w4 ⟨rfl, ⟨k, hk1, h4⟩, hk4⟩
                have HJ4 := Lib.hid (HJ3.out.step hk4 h4)
                have HK4 := Lib.hid (HK3.out.trans (hk4.mono (fun j _ h => h.1)))
                clear h4 hk4
                go_wp2_with fail
                go_meet
                exact ⟨k, sq, ss, o, rfl, rfl, hk1, by omega, HJ4.out, HK4.out⟩
              · by_cases h4 : kind = 4
                · subst h4
                  clear h0 h15 h2
                  go_wp2_with fail
                  refine (done_sw HJ3.out.s).mono ?_
                  rintro e w4 ⟨⟨y1, y2, y3, rfl⟩, h4, hk4⟩
                  have HJ4 := Lib.hid (HJ3.out.step hk4 h4)
                  have HK4 := Lib.hid (HK3.out.trans (hk4.mono (fun j _ h => h.1)))
                  clear h4 hk4
                  go_wp2_with fail
                  go_meet
                  exact ⟨0, sq, ss, o, rfl, rfl, by omega, by omega, HJ4.out, HK4.out⟩
                · have b0 : (kind == 0) = false := by simpa using h0
                  have b1 : (kind == 1) = false := by simp; omega
                  have b5 : (kind == 5) = false := by simp; omega
                  have b2 : (kind == 2) = false := by simpa using h2
                  have b4 : (kind == 4) = false := by simpa using h4
                  clear h0 h15 h2 h4
                  go_wp2_with fail
                  go_meet
                  exact ⟨0, sq, ss, o, rfl, rfl, by omega, by omega, HJ3.out, HK3.out⟩
        case rest =>
          obtain ⟨k, sq', ss', o', rfl, rfl, hk, hsq, hj, hK⟩ := hcut
          have HJC := Lib.hid hj
          have HKC := Lib.hid hK
          clear hj hK HJ3 HK3 HX HSX
          go_wp2_with fail
          refine (calls_sw HJC.out.s).mono ?_
          rintro e w8 ⟨ca, cl, cc, rfl, hcl, hask, hat, h8, hk8⟩
          have HK8 := Lib.hid (HKC.out.trans (hk8.mono (fun j _ h => h.1)))
          by_cases hk0 : k = 0
          · subst hk0
            have HJ8 := Lib.hid (HJC.out.step hk8 h8)
            clear h8 hk8 hat hask hcl HJC HKC
            go_wp2_with fail
            refine wp_loop_rounds 1 ?_
            rw [rounds_succ]
            go_wp2_with fail
            go_roundw
            case rel => exact ⟨i + 1, t, sq', ss', o', rfl, rfl, by go_num, by omega, by omega, by omega, hsq, HJ8.out, HK8.out⟩
            case measure => simp [intOf]; omega
          · obtain rfl : k = 1 := by omega
            match cl, hcl with
            | [q], _ =>
              obtain ⟨⟨a1, a2, a3, a4, a5, a6⟩, hqr⟩ := hask q (by simp)
              obtain ⟨g, rfl, hc⟩ := hat 0 q rfl
              obtain ⟨qto, qid, qki, qss, qsq, qfr, qmo, qa, qd, qc⟩ := q
              dsimp only at a1 a2 a3 a4 a5 a6 hqr
              subst a1 a2 a3 a4 a5
              have hkz := (Kp.refl (fun _ => False) w8).alloc (.cells #[.int .i64 (A * 1000000 + ((t : Int) + 1)), .int .i64 o'.kind, .int .i64 qss, .int .i64 qsq, .int .i64 o'.from_, .int .i64 o'.most, .slice qa o'.dl.length qc] 38)
              have hz := heap_new w8 (.cells #[.int .i64 (A * 1000000 + ((t : Int) + 1)), .int .i64 o'.kind, .int .i64 qss, .int .i64 qsq, .int .i64 o'.from_, .int .i64 o'.most, .slice qa o'.dl.length qc] 38)
              have HK9 := Lib.hid (HK8.out.trans hkz.no)
              have M9 := Lib.hid ((HJC.out.m.kp hk8 (fun e => e.2 (.inl rfl))).kp hkz (fun h => h))
              have Q9 := Lib.hid (hkz.heap (hk8.heap HJC.out.q (fun e => e.2 (.inr (.inl rfl)))) (fun h => h))
              have R9 := Lib.hid ((HJC.out.r.kp hk8 (fun g hg e => e.2 (.inr (.inr hg)))).no hkz)
              have S9 := Lib.hid (h8.no hkz)
              have P9 := Lib.hid (hqr.no hkz)
              have Z9 := Lib.hid hz
              have D9 := Lib.hid (show ∀ g, blockOf o'.da = some g → g ≠ G ∧ g ≠ G + 1 ∧ g < (w8.alloc (.cells #[.int .i64 (A * 1000000 + ((t : Int) + 1)), .int .i64 o'.kind, .int .i64 qss, .int .i64 qsq, .int .i64 o'.from_, .int .i64 o'.most, .slice qa o'.dl.length qc] 38)).heap.size ∧ B ≤ g from fun g hg => ⟨(HJC.out.da g hg).1, (HJC.out.da g hg).2.1, Nat.lt_of_lt_of_le (Nat.lt_of_lt_of_le (HJC.out.da g hg).2.2.1 hk8.size) hkz.size, (HJC.out.da g hg).2.2.2⟩)
              have d1 : w8.cell? ⟨g, 1, none⟩ = some (.int .i64 (A * 1000000 + ((t : Int) + 1))) := by simpa using hc 1 _ rfl
              have d2 : w8.cell? ⟨g, 2, none⟩ = some (.int .i64 o'.kind) := by simpa using hc 2 _ rfl
              have d3 : w8.cell? ⟨g, 3, none⟩ = some (.int .i64 qss) := by simpa using hc 3 _ rfl
              have d4 : w8.cell? ⟨g, 4, none⟩ = some (.int .i64 qsq) := by simpa using hc 4 _ rfl
              have d5 : w8.cell? ⟨g, 5, none⟩ = some (.int .i64 o'.from_) := by simpa using hc 5 _ rfl
              have d6 : w8.cell? ⟨g, 6, none⟩ = some (.int .i64 o'.most) := by simpa using hc 6 _ rfl
              have d7 : w8.cell? ⟨g, 7, none⟩ = some (.slice qa o'.dl.length qc) := by simpa using hc 7 _ rfl
              have A6 := Lib.hid a6
              clear hkz hz hc hqr a6 h8 hk8 hat hask hk0 HK8
              go_wp2_with fail
              refine wp_loop_rounds 2 ?_
              rw [rounds_succ]
              go_upto_region 33 with fail
              clear d1 d2 d3 d4 d5 d6 d7
              generalize w8.alloc (.cells #[.int .i64 (A * 1000000 + ((t : Int) + 1)), .int .i64 o'.kind, .int .i64 qss, .int .i64 qsq, .int .i64 o'.from_, .int .i64 o'.most, .slice qa o'.dl.length qc] 38) = w9 at HK9 M9 Q9 R9 S9 P9 Z9 D9 ⊢
              generalize w8.heap.size = Z at Z9 ⊢
              have hget := get_ms A t (A * 1000000 + ((t : Int) + 1))
              rw [decide_eq_false (by rintro ⟨k, h1, h2⟩; omega)] at hget
              have HPUT := Lib.hid (ms_put A t)
              have HGET := Lib.hid hget
              have cv1 := P9.out.str qc
              have cv2 := R9.out.str o'.dc
              have z0 := cell_of Z9.out 0 (v := .int .i64 (A * 1000000 + ((t : Int) + 1))) rfl
              obtain ⟨nu, hnu⟩ : ∃ nu, nu = A * 1000000 + ((t : Int) + 1) := ⟨_, rfl⟩
              rw [← hnu] at HPUT HGET z0
              have z1 := cell_of Z9.out 1 (v := .int .i64 o'.kind) rfl
              have z2 := cell_of Z9.out 2 (v := .int .i64 qss) rfl
              have z3 := cell_of Z9.out 3 (v := .int .i64 qsq) rfl
              have z4 := cell_of Z9.out 4 (v := .int .i64 o'.from_) rfl
              have z5 := cell_of Z9.out 5 (v := .int .i64 o'.most) rfl
              have z6 := cell_of Z9.out 6 (v := .slice qa o'.dl.length qc) rfl
              have q0 := cell_of Q9.out 0 (v := .int .i64 o'.kind) rfl
              have q1 := cell_of Q9.out 1 (v := .int .i64 o'.from_) rfl
              have q2 := cell_of Q9.out 2 (v := .int .i64 o'.most) rfl
              have q3 := cell_of Q9.out 3 (v := .slice o'.da o'.dl.length o'.dc) rfl
              obtain ⟨S, hS⟩ : ∃ S, S = strOfNums o'.dl := ⟨_, rfl⟩
              rw [← hS] at cv1 cv2
              clear hget hnu hS
              go_wp2_with (at_lookup; refine Stop.mk ?_)
              unfold Stop
              refine wpList_lookup_i Try.underlying36 Try.underlying3 rfl _ _ rfl rfl M9.out zeroBool rfl HGET.out ?_
              by_cases hk2 : o'.kind = 2
              · obtain ⟨rfl, rfl⟩ := A6.out hk2
                have hkb : (o'.kind == 2) = true := by simpa using hk2
                clear hk2
                go_wp2_with (at_mapUpdate; refine Stop.mk ?_)
                unfold Stop
                refine wpList_update_i Try.underlying36 Try.underlying3 rfl _ _ _ rfl rfl M9.out rfl rfl ?_
                intro w10 m10 k10
                have m10 : IMap w10 G (putm (ms A t) nu (.bool true)) := m10
                rw [HPUT.out] at m10
                have HJ10 := Lib.hid (jw_of (S9.out.kp k10 (fun j e => .inl (.inl e))) m10 Q9.out R9.out HJC.out.ne D9.out HJC.out.hG HJC.out.hQ k10)
                have HK10 := Lib.hid (HK9.out.trans (k10.mono (fun j _ (e : j = G) => by rw [e]; exact HJC.out.hG)))
                clear m10 k10 cv1 cv2 z0 z1 z2 z3 z4 z5 z6 q0 q1 q2 q3
                go_wp2_with fail
                rw [rounds_succ]
                go_wp2_with fail
                go_roundw
                case rel => exact ⟨i + 1, t + 1, _, _, o', rfl, rfl, by go_num, by omega, by omega, by omega, hsq, HJ10.out, HK10.out⟩
                case measure => simp [intOf]; omega
              · have hkb : (o'.kind == 2) = false := by simpa using hk2
                clear hk2
                go_wp2_with (at_mapUpdate; refine Stop.mk ?_)
                unfold Stop
                refine wpList_update_i Try.underlying36 Try.underlying3 rfl _ _ _ rfl rfl M9.out rfl rfl ?_
                intro w10 m10 k10
                have m10 : IMap w10 G (putm (ms A t) nu (.bool true)) := m10
                rw [HPUT.out] at m10
                have HJ10 := Lib.hid (jw_of (S9.out.kp k10 (fun j e => .inl (.inl e))) m10 Q9.out R9.out HJC.out.ne D9.out HJC.out.hG HJC.out.hQ k10)
                have HK10 := Lib.hid (HK9.out.trans (k10.mono (fun j _ (e : j = G) => by rw [e]; exact HJC.out.hG)))
                clear m10 k10 cv1 cv2 z0 z1 z2 z3 z4 z5 z6 q0 q1 q2 q3
                go_wp2_with fail
                rw [rounds_succ]
                go_wp2_with fail
                go_roundw
                case rel => exact ⟨i + 1, t + 1, _, _, o', rfl, rfl, by go_num, by omega, by omega, by omega, hsq, HJ10.out, HK10.out⟩
                case measure => simp [intOf]; omega
      · have hor : ¬ ((i : Int) < (l.length : Int)) ∨ ((i : Int) < (l.length : Int) ∧ ¬ (i : Int) < 200) := by omega
        have hlen := run_len_i (P := Try.prog) Try.underlying36 HJ.out.m 3
        rw [ms_length] at hlen
        clear hlt
        rcases hor with hx | ⟨hx, hy⟩
        all_goals
          (go_wp2_with (first | (go_at_call 24; refine (seq_sw HJ.out.s).mono ?_; rintro e w' ⟨rfl, rfl⟩) | (go_at_call 16; refine (tries_sw HJ.out.s).mono ?_; rintro e w' ⟨rfl, rfl⟩) | (go_at_call 11; refine (knows_any _).mono ?_; rintro e w11 ⟨rfl, hk11⟩))
           go_ret
           exact ⟨rfl, (HB.out ▸ HK.out.trans hk11.no).belowW⟩)

set_option maxRecDepth 100000 in
theorem lifted (os : Os) (started : os.Started) (H : Type) (enc : TypeId × Value → H) :
    ReturnsInHanded {} Try.checked os 8 .any (Rows.clientSameSpec.pre6 enc Try.prog Try.f8 Rows.clientSameRow.domain false) (Rows.clientSameSpec.post enc Try.prog Try.f8 false true false false) := by
  refine returnsInHanded_of_change_sized (C := Try.checked) own started (by kernel_rfl) Try.func8
    (ChangeSpec.witness6 (enc := enc) (C := Try.checked) false ⟨#[], #[.int .i64 0, .slice none 0 0, .slice none 0 0], []⟩ 8 (by kernel_rfl) (by kernel_rfl) (by kernel_rfl) (by kernel_rfl)) ?_
  intro W base args ds gs before hval0 hW _ hsz _
  have hval : ∀ (j : Nat) t v, Try.f8.params[j]? = some t → args[j]? = some v → Value.okWide Try.prog W .any base t v := hval0
  have hW' := hW
  obtain ⟨p, q, hA0, hV, rfl, hfz, hnd⟩ := hW
  have hA : DataW.TrodAll enc Try.prog W 0 (fun _ => true) true Try.f8.params.toList args.toList ds p := hA0
  rw [Try.params8] at hA hval
  obtain ⟨v0, vs0, d0, ds0, p0, q0, hargs, rfl, rfl, h0, r0⟩ := trodAll_cons hA
  obtain ⟨v1, vs1, d1, ds1, p1, q1, rfl, rfl, rfl, h1, r1⟩ := trodAll_cons r0
  obtain ⟨v2, vs2, d2, ds2, p2, q2, rfl, rfl, rfl, h2, r2⟩ := trodAll_cons r1
  obtain ⟨rfl, rfl, rfl⟩ := trodAll_nil r2
  obtain rfl : args = #[v0, v1, v2] := by cases args; simp_all
  obtain ⟨rfl, rfl⟩ := trodVars_none hV
  obtain ⟨a0, rfl, rfl, _, w0⟩ := open_int Try.underlying3 (hval 0 3 v0 rfl rfl) h0
  obtain ⟨x, zs, c, rfl, hX, hZ⟩ := open_il (hval 1 22 v1 rfl rfl) h1
  have mx := il_le hsz (j := 1) rfl rfl hZ
  obtain ⟨oa, l, oc, rfl, hO, hS⟩ := open_ops (hval 2 50 v2 rfl rfl) h2
  refine (walk a0 x zs c oa l oc W hX mx hO (hS (reaches_of hsz (j := 2) rfl rfl)).2).mono fun e W' ⟨he, hg⟩ => ?_
  subst he
  exact ⟨_, rfl, law_post laidOut (of_decide_eq_true (by kernel_rfl)) rfl Try.underlying4 rfl ⟨rfl, rfl, rfl⟩ hW' hg⟩

theorem over : Rows.clientSameRow.holds Try.pinned (OpenSpec.ofChange Rows.clientSameSpec) :=
  OpenClaim.holds_of_wide 8 Try.f8 rfl rfl rfl rfl rfl rfl rfl ⟨rfl, rfl, rfl, rfl, rfl⟩ rfl rfl rfl rfl rfl (by kernel_rfl) Try.func8 (by kernel_rfl)
    (of_decide_eq_true (by kernel_rfl)) (by unfold Func.isWrapper; first | (rw [if_pos (by decide +kernel)]; kernel_rfl) | (rw [if_neg (by decide +kernel)]; exact ⟨rfl, rfl⟩))
    (fun os started H enc _ => lifted os started H enc)

theorem proved : Rows.ClientSameSaid :=
  over
#print axioms proved
end Go.Proofs.Ytjhefbkigmamfaa.clientSame
