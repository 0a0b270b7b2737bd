/-
  A client that waits for an answer, by its numbers: what Tick and Calls do. Where the counts are few.
-/
import Derived.Test.YtjhefbkigmamfaaKn
namespace Go.Proofs.Ytjhefbkigmamfaa
open Go.ChangeShapes Go.WideShapes Go.ChangeAt Go.RowKit
set_option linter.unusedVariables false

/-- The remainder, from nought on. -/
def md (z m : Int) : Int := (z.tmod m + m).tmod m
theorem md_lo (z m : Int) (h : 1 ≤ m) : 0 ≤ md z m := by
  have h1 : -m < z.tmod m := Int.lt_tmod_of_pos z (show 0 < m by omega)
  exact Int.tmod_nonneg m (by omega)
theorem md_hi (z m : Int) (h : 1 ≤ m) : md z m < m := Int.tmod_lt_of_pos _ (by omega)
theorem md_in (z m : Int) (h : 1 ≤ m) (h2 : m ≤ 1000000) : IntKind.i64.wrap (z.tmod m + m) = z.tmod m + m := by
  have h1 : -m < z.tmod m := Int.lt_tmod_of_pos z (show 0 < m by omega)
  have h2 : z.tmod m < m := Int.tmod_lt_of_pos _ (by omega)
  exact IntWalk.i64_in _ (by omega)

/-- It waits; the blocks of N are not its own. Of each call that is not taken: its server, its number. -/
def CW (w : World) (B b : Nat) (N : Nat → Prop) (id pat : Int) (zs : List Int) (p : Int) (at_ : Nat) (T : Int) (l : List (Int × Int)) : Prop :=
  ∃ R v, Client w B R b v ∧ (∀ j, N j → ¬ All R b v j) ∧ v.id = id ∧ v.pat = pat ∧ v.sl = zs ∧ v.state = 1 ∧ v.passed = p ∧ v.at_ = at_ ∧ v.tries = T ∧ v.cl.map (fun q => (q.to, q.id)) = l
theorem CW.ge {w : World} {B b : Nat} {N : Nat → Prop} {id pat : Int} {zs : List Int} {p : Int} {at_ : Nat} {T : Int} {l : List (Int × Int)} (h : CW w B b N id pat zs p at_ T l) : B ≤ b ∧ b < w.heap.size := by
  obtain ⟨R, v, k, _⟩ := h
  exact ⟨k.ge, lt_of_block k.blk⟩
theorem CW.kp {w w' : World} {B b : Nat} {N : Nat → Prop} {id pat : Int} {zs : List Int} {p : Int} {at_ : Nat} {T : Int} {l : List (Int × Int)} (h : CW w B b N id pat zs p at_ T l) {S : Nat → Prop} (hk : Kp S w w') (hn : ∀ j, S j → N j ∨ j < B ∨ w.heap.size ≤ j) : CW w' B b N id pat zs p at_ T l := by
  obtain ⟨R, v, k, hN, r⟩ := h
  refine ⟨R, v, k.kp hk (fun j hj hs => ?_), hN, r⟩
  have := k.all hj
  rcases hn j hs with h | h | h
  · exact hN j h hj
  · omega
  · omega
theorem CW.at_lt {w : World} {B b : Nat} {N : Nat → Prop} {id pat : Int} {zs : List Int} {p : Int} {at_ : Nat} {T : Int} {l : List (Int × Int)} (h : CW w B b N id pat zs p at_ T l) : at_ < zs.length := by
  obtain ⟨R, v, k, _, _, _, rfl, _, _, rfl, _⟩ := h
  exact k.at_
/-- Other blocks that are not its own, if they are new. -/
theorem CW.other {w : World} {B b : Nat} {N N' : Nat → Prop} {id pat : Int} {zs : List Int} {p : Int} {at_ : Nat} {T : Int} {l : List (Int × Int)} (h : CW w B b N id pat zs p at_ T l) (hn : ∀ j, N' j → N j ∨ w.heap.size ≤ j) : CW w B b N' id pat zs p at_ T l := by
  obtain ⟨R, v, k, hN, r⟩ := h
  refine ⟨R, v, k, fun j hj ha => ?_, r⟩
  have := (k.all ha).2
  rcases hn j hj with h | h
  · exact hN j h ha
  · omega

theorem tick_cw {w : World} {B b : Nat} {N : Nat → Prop} {id pat : Int} {zs : List Int} {p : Int} {at_ : Nat} {T : Int} {l : List (Int × Int)} (h : CW w B b N id pat zs p at_ T l) (hN : ∀ j, N j → j < w.heap.size) (hp : 0 ≤ p) (hp1 : p ≤ pat) (hT : 0 ≤ T) (hT1 : T ≤ 1000000) (hl : l.length ≤ 1000000) :
    Calls Try.prog 13 #[.pointer (some ⟨b, 0, none⟩)] w fun e w' => e = .returned (.int .i64 0) ∧ (if p + 1 < pat then CW w' B b N id pat zs (p + 1) at_ T l else CW w' B b N id pat zs 0 ((at_ + 1) % zs.length) (T + 1) (l ++ [(zs.getD ((at_ + 1) % zs.length) 0, id * 1000000 + (T + 1))])) ∧ Kp (fun j => B ≤ j ∧ ¬ N j) w w' := by
  obtain ⟨R, v, k, hn, rfl, rfl, rfl, h4, rfl, rfl, rfl, rfl⟩ := h
  rw [List.length_map] at hl
  have hfoot : ∀ j, Foot b v.ca j → B ≤ j ∧ ¬ N j := fun j h => ⟨(k.foot h).1, fun e => hn j e (.inl h)⟩
  by_cases hlt : v.passed + 1 < v.pat
  · refine Calls.mono (tick_wait k h4 hp hlt) ?_
    rintro e w' ⟨he, k', hk⟩
    rw [if_pos hlt]
    exact ⟨he, ⟨R, _, k', hn, rfl, rfl, rfl, h4, rfl, rfl, rfl, rfl⟩, hk.mono (fun j _ (e : j = b) => hfoot j (.inl e))⟩
  · refine Calls.mono (tick_ask k h4 hp hp1 (by omega) ⟨by omega, by omega⟩ hT (by omega) (Nat.le_trans k.ge (Nat.le_of_lt (lt_of_block k.blk)))) ?_
    rintro e w' ⟨he, da, dc, R', ca', cc', k', hk, hr, hm⟩
    rw [if_neg hlt]
    refine ⟨he, ⟨R', _, k', fun j hj ha => ?_, rfl, rfl, rfl, h4, rfl, rfl, rfl, ?_⟩, hk.mono (fun j _ h => hfoot j h)⟩
    · rcases ha with ha | ha
      · exact hn j hj (.inl (hm.old ha (hN j hj)))
      · rcases hr j ha with h | h
        · exact hn j hj (.inr h)
        · have := hN j hj; omega
    · show (v.cl ++ [callOf (more { v with at_ := nextAt v }) da dc]).map (fun q => (q.to, q.id)) = _
      rw [List.map_append]
      rfl

theorem calls_cw {w : World} {B b : Nat} {N : Nat → Prop} {id pat : Int} {zs : List Int} {p : Int} {at_ : Nat} {T : Int} {l : List (Int × Int)} (h : CW w B b N id pat zs p at_ T l) :
    Calls Try.prog 14 #[.pointer (some ⟨b, 0, none⟩)] w fun e w' => ∃ o co, e = .returned (.slice o l.length co) ∧ (∀ (k : Nat) (q : Int × Int), l[k]? = some q → ∃ g, o = some ⟨g, 0, none⟩ ∧ B ≤ g ∧ ¬ N g ∧ w'.cell? ⟨g, k * 8, none⟩ = some (.int .i64 q.1) ∧ w'.cell? ⟨g, k * 8 + 1, none⟩ = some (.int .i64 q.2)) ∧
      CW w' B b N id pat zs p at_ T [] ∧ Kp (fun j => B ≤ j ∧ ¬ N j) w w' := by
  obtain ⟨R, v, k, hn, h1, h2, h3, h4, h5, h6, h7, rfl⟩ := h
  refine Calls.mono (calls_any k) ?_
  rintro e w' ⟨he, k', hk⟩
  refine ⟨v.ca, v.cc, by rw [he, List.length_map], ?_, ⟨R, _, k', fun j hj ha => hn j hj (ha.elim (fun h => .inl (h.elim .inl (fun e => by cases e))) .inr), h1, h2, h3, h4, h5, h6, h7, rfl⟩, hk.mono (fun j _ (e : j = b) => ⟨by rw [e]; exact k.ge, fun h => hn j h (.inl (.inl e))⟩)⟩
  intro i q hq
  rw [List.getElem?_map] at hq
  obtain ⟨x, hx, rfl⟩ := Option.map_eq_some_iff.1 hq
  obtain ⟨g, hg, hc⟩ := k.list i x hx
  have hgo : blockOf v.ca = some g := by rw [hg]; rfl
  have hgb : g ≠ b := fun e => k.ne (by rw [hgo, e])
  have far : ∀ o u, w.cell? ⟨g, o, none⟩ = some u → w'.cell? ⟨g, o, none⟩ = some u := fun o u h => (hk.cell (p := ⟨g, o, none⟩) (World.block_lt_of_cell? _ _ h) hgb).trans h
  exact ⟨g, hg, (k.own.from hgo).1, fun h => hn g h (.inl (.inr hgo.symm)), far _ _ (hc 0 _ rfl), far _ _ (hc 1 _ rfl)⟩

/-- Do of an order to open a session. -/
theorem open_cw {w : World} {B : Nat} {R : Nat → Prop} {b : Nat} {sa : Option Addr} {zs : List Int} {sc : Nat} {id pat : Int} (k : Client w B R b (cv0 sa zs sc id pat)) :
    Calls Try.prog 12 #[.pointer (some ⟨b, 0, none⟩), .agg #[.int .i64 1, .int .i64 0, .int .i64 0, .slice none 0 0]] w fun e w' => e = .returned (.int .i64 0) ∧ CW w' B b (fun _ => False) id pat zs 0 0 1 [(zs.getD 0 0, id * 1000000 + 1)] ∧ Kp (fun j => j = b) w w' := by
  refine Calls.mono (do_yes k open0 (doE_open rfl) (Row.nil _ _) (fun g hg => by cases hg) (by simp [open0]) (few_small _ (by simp [cv0]) (by simp [cv0])) (by simp [cv0]) (few_small _ (by simp [cv0]) (by simp [cv0])) (by simp [cv0]) (by simp [cv0]) (Nat.le_trans k.ge (Nat.le_of_lt (lt_of_block k.blk)))) ?_
  rintro e w' ⟨he, oa, oc, da, dc, R', ca', cc', k', hk, hr, hm⟩
  exact ⟨he, ⟨R', _, k', fun j h => h.elim, rfl, rfl, rfl, rfl, rfl, rfl, rfl, rfl⟩, hk.mono (fun j _ h => h.elim (fun e => e) (fun e => by cases e))⟩
end Go.Proofs.Ytjhefbkigmamfaa
