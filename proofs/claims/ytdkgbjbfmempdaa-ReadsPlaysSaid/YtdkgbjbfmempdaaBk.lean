/-
  A book of reads in memory: its block, its list. And small laws on lists of reads. No condition.
-/
import Derived.Test.YtdkgbjbfmempdaaRef
import Derived.Maps.AppendAt
import Derived.Deep.MidRow
namespace Go.Proofs.Ytdkgbjbfmempdaa
open Go.RowKit
set_option linter.unusedVariables false

/-- One that waits. -/
structure Rd where
  id : Int
  ix : Int
  rd : Int
instance : Inhabited Rd := ⟨⟨0, 0, 0⟩⟩
def flat (l : List Rd) : List Value := l.flatMap fun r => [.int .i64 r.id, .int .i64 r.ix, .int .i64 r.rd]
def flat2 (l : List (Int × Int)) : List Value := l.flatMap fun r => [.int .i64 r.1, .int .i64 r.2]

theorem flat_append (a b : List Rd) : flat (a ++ b) = flat a ++ flat b := by simp [flat]
theorem flat2_append (a b : List (Int × Int)) : flat2 (a ++ b) = flat2 a ++ flat2 b := by simp [flat2]
theorem flat_cons (r : Rd) (l : List Rd) : flat (r :: l) = .int .i64 r.id :: .int .i64 r.ix :: .int .i64 r.rd :: flat l := rfl
theorem flat2_cons (r : Int × Int) (l : List (Int × Int)) : flat2 (r :: l) = .int .i64 r.1 :: .int .i64 r.2 :: flat2 l := rfl
theorem flat_length : ∀ l : List Rd, (flat l).length = l.length * 3
  | [] => rfl
  | r :: l => by rw [flat_cons]; simp [flat_length l]; omega
theorem flat2_length : ∀ l : List (Int × Int), (flat2 l).length = l.length * 2
  | [] => rfl
  | r :: l => by rw [flat2_cons]; simp [flat2_length l]; omega
theorem flat_get : ∀ (l : List Rd) (k : Nat) (r : Rd), l[k]? = some r → (flat l)[k * 3]? = some (.int .i64 r.id) ∧ (flat l)[k * 3 + 1]? = some (.int .i64 r.ix) ∧ (flat l)[k * 3 + 2]? = some (.int .i64 r.rd)
  | [], k, r, h => by simp at h
  | x :: l, 0, r, h => by
    simp at h
    subst h
    simp [flat_cons]
  | x :: l, k + 1, r, h => by
    have ih := flat_get l k r (by simpa using h)
    rw [flat_cons, show (k + 1) * 3 = k * 3 + 3 by omega]
    simpa using ih
theorem flat2_get : ∀ (l : List (Int × Int)) (k : Nat) (r : Int × Int), l[k]? = some r → (flat2 l)[k * 2]? = some (.int .i64 r.1) ∧ (flat2 l)[k * 2 + 1]? = some (.int .i64 r.2)
  | [], k, r, h => by simp at h
  | x :: l, 0, r, h => by
    simp at h
    subst h
    simp [flat2_cons]
  | x :: l, k + 1, r, h => by
    have ih := flat2_get l k r (by simpa using h)
    rw [flat2_cons, show (k + 1) * 2 = k * 2 + 2 by omega]
    simpa using ih
theorem flat_take : ∀ (l : List Rd) (k : Nat), (flat l).take (k * 3) = flat (l.take k)
  | [], k => by simp [flat]
  | x :: l, 0 => by simp [flat]
  | x :: l, k + 1 => by
    rw [flat_cons, List.take_succ_cons, flat_cons, ← flat_take l k, show (k + 1) * 3 = k * 3 + 3 by omega]
    rfl
theorem one_flat (l : List Rd) : ∀ u ∈ flat l, u.oneCell' = true := by
  intro u hu
  unfold flat at hu
  rw [List.mem_flatMap] at hu
  obtain ⟨r, _, h⟩ := hu
  simp at h
  rcases h with rfl | rfl | rfl <;> rfl
theorem one_flat2 (l : List (Int × Int)) : ∀ u ∈ flat2 l, u.oneCell' = true := by
  intro u hu
  unfold flat2 at hu
  rw [List.mem_flatMap] at hu
  obtain ⟨r, _, h⟩ := hu
  simp at h
  rcases h with rfl | rfl <;> rfl

/-- The cells of a list of reads: by number, in both packages. -/
def Reads (w : World) (a : Option Addr) (l : List Rd) : Prop := ∀ k, k < l.length → ∃ b, a = some ⟨b, 0, none⟩ ∧
  w.cell? ⟨b, k * 3, none⟩ = some (.int .i64 (l.getD k default).id) ∧ w.cell? ⟨b, k * 3 + 1, none⟩ = some (.int .i64 (l.getD k default).ix) ∧ w.cell? ⟨b, k * 3 + 2, none⟩ = some (.int .i64 (l.getD k default).rd)
theorem Owns.reads {w : World} {B : Nat} {e : TypeId} {n cap : Nat} {a : Option Addr} {l : List Rd} (h : Owns w B e 3 a n cap (flat l)) : Reads w a l := by
  intro k hk
  have hg : l[k]? = some (l.getD k default) := by simp [List.getD, hk]
  obtain ⟨h0, h1, h2⟩ := flat_get l k _ hg
  obtain ⟨g, rfl, c0⟩ := Owns.cell h h0
  obtain ⟨_, e1, c1⟩ := Owns.cell h h1
  cases e1
  obtain ⟨_, e2, c2⟩ := Owns.cell h h2
  cases e2
  exact ⟨g, rfl, c0, c1, c2⟩
/-- The cells of a list of answers. -/
def Answers (w : World) (a : Option Addr) (l : List (Int × Int)) : Prop := ∀ k, k < l.length → ∃ b, a = some ⟨b, 0, none⟩ ∧
  w.cell? ⟨b, k * 2, none⟩ = some (.int .i64 (l.getD k default).1) ∧ w.cell? ⟨b, k * 2 + 1, none⟩ = some (.int .i64 (l.getD k default).2)
theorem Owns.answers {w : World} {B : Nat} {e : TypeId} {n cap : Nat} {a : Option Addr} {l : List (Int × Int)} (h : Owns w B e 2 a n cap (flat2 l)) : Answers w a l := by
  intro k hk
  have hg : l[k]? = some (l.getD k default) := by simp [List.getD, hk]
  obtain ⟨h0, h1⟩ := flat2_get l k _ hg
  obtain ⟨g, rfl, c0⟩ := Owns.cell h h0
  obtain ⟨_, e1, c1⟩ := Owns.cell h h1
  cases e1
  exact ⟨g, rfl, c0, c1⟩
theorem Answers.kp {w w' : World} {a : Option Addr} {l : List (Int × Int)} (h : Answers w a l) {S : Nat → Prop} (k : Kp S w w') (hn : ∀ b, blockOf a = some b → ¬ S b) : Answers w' a l := by
  intro i hi
  obtain ⟨b, rfl, c0, c1⟩ := h i hi
  have hb := World.block_lt_of_cell? w _ c0
  exact ⟨b, rfl, (k.cell (p := ⟨b, i * 2, none⟩) hb (hn b rfl)).trans c0, (k.cell (p := ⟨b, i * 2 + 1, none⟩) hb (hn b rfl)).trans c1⟩

/-- The sixteen cells of what was heard. -/
def sixteen (h : Nat → Int) : List Value := [.int .i64 (h 0), .int .i64 (h 1), .int .i64 (h 2), .int .i64 (h 3), .int .i64 (h 4), .int .i64 (h 5), .int .i64 (h 6), .int .i64 (h 7), .int .i64 (h 8), .int .i64 (h 9), .int .i64 (h 10), .int .i64 (h 11), .int .i64 (h 12), .int .i64 (h 13), .int .i64 (h 14), .int .i64 (h 15)]
def bookCells (me : Int) (made : Bool) (l : Value) (h : Nat → Int) : Array Value := (.int .i64 me :: .bool made :: l :: sixteen h).toArray
theorem one_sixteen (h : Nat → Int) : ∀ v ∈ sixteen h, v.oneCell' = true := by
  intro v hv
  simp only [sixteen, List.mem_cons, List.not_mem_nil, or_false] at hv
  rcases hv with rfl | rfl | rfl | rfl | rfl | rfl | rfl | rfl | rfl | rfl | rfl | rfl | rfl | rfl | rfl | rfl <;> rfl
theorem ones {h : Nat → Int} : (sixteen h).toArray.all (·.oneCell') = true := all_oneCell_toArray (one_sixteen h)
theorem size49 : (Try.prog.info? 49).map (·.size) = some 16 := by kernel_rfl
theorem Kp.setRow {S : Nat → Prop} {a w : World} (h : Kp S a w) {g : Nat} (hp : S g ∨ a.heap.size ≤ g) (cs : Array Value) : Kp S a (w.setRow g cs) :=
  h.andThen (S' := fun k => k = g) ⟨rfl, rfl, rfl, by simp, fun k _ hn => setRow_other _ _ _ _ hn⟩
    fun i hi e => hp.elim (fun h => e ▸ h) (fun h => by omega)
theorem sixteen_get (h : Nat → Int) (k : Nat) (hk : k < 16) : (sixteen h)[k]? = some (.int .i64 (h k)) := by
  have : k = 0 ∨ k = 1 ∨ k = 2 ∨ k = 3 ∨ k = 4 ∨ k = 5 ∨ k = 6 ∨ k = 7 ∨ k = 8 ∨ k = 9 ∨ k = 10 ∨ k = 11 ∨ k = 12 ∨ k = 13 ∨ k = 14 ∨ k = 15 := by omega
  rcases this with rfl | rfl | rfl | rfl | rfl | rfl | rfl | rfl | rfl | rfl | rfl | rfl | rfl | rfl | rfl | rfl <;> rfl
theorem sixteen_set (h : Nat → Int) (k : Nat) (hk : k < 16) (v : Int) : (sixteen h).set k (.int .i64 v) = sixteen (fun j => if j = k then v else h j) := by
  have : k = 0 ∨ k = 1 ∨ k = 2 ∨ k = 3 ∨ k = 4 ∨ k = 5 ∨ k = 6 ∨ k = 7 ∨ k = 8 ∨ k = 9 ∨ k = 10 ∨ k = 11 ∨ k = 12 ∨ k = 13 ∨ k = 14 ∨ k = 15 := by omega
  rcases this with rfl | rfl | rfl | rfl | rfl | rfl | rfl | rfl | rfl | rfl | rfl | rfl | rfl | rfl | rfl | rfl <;> rfl

/-- A book: me, who waits, what was heard; its block b, its list at a. All its memory is from B on. -/
structure Book (w : World) (B b : Nat) (me : Int) (l : List Rd) (h : Nat → Int) (a : Option Addr) (cap : Nat) : Prop where
  blk : w.heap[b]? = some (.cells (bookCells me true (.slice a l.length cap) h) 51 (0, 0))
  own : Owns w B 57 3 a l.length cap (flat l)
  ge : B ≤ b
theorem Owns.type {w : World} {B : Nat} {e : TypeId} {size : Nat} {a : Option Addr} {n cap : Nat} {xs : List Value} (h : Owns w B e size a n cap xs) {b : Nat} (hb : blockOf a = some b) : ∃ cur, w.heap[b]? = some (.cells cur e (0, 0)) := by
  rcases h.2 with ⟨h2, _⟩ | ⟨g, cap', cur, hv, hge, hg, r⟩
  · simp only [Value.slice.injEq] at h2
    rw [h2.1] at hb
    cases hb
  · simp only [Value.slice.injEq] at hv
    rw [hv.1] at hb
    cases hb
    exact ⟨cur, hg⟩
theorem Book.ne {w : World} {B b : Nat} {me : Int} {l : List Rd} {h : Nat → Int} {a : Option Addr} {cap : Nat} (k : Book w B b me l h a cap) : blockOf a ≠ some b := by
  intro e
  obtain ⟨cur, hc⟩ := k.own.type e
  have := k.blk.symm.trans hc
  cases this
theorem Book.kp {w w' : World} {B b : Nat} {me : Int} {l : List Rd} {h : Nat → Int} {a : Option Addr} {cap : Nat} (k : Book w B b me l h a cap) {S : Nat → Prop} (hk : Kp S w w') (h1 : ¬ S b) (h2 : ∀ g, blockOf a = some g → ¬ S g) : Book w' B b me l h a cap :=
  ⟨hk.heap k.blk h1, k.own.kp hk h2, k.ge⟩
theorem Book.no {w w' : World} {B b : Nat} {me : Int} {l : List Rd} {h : Nat → Int} {a : Option Addr} {cap : Nat} (k : Book w B b me l h a cap) (hk : Kp (fun _ => False) w w') : Book w' B b me l h a cap :=
  k.kp hk (fun h => h) (fun _ _ h => h)
theorem Book.cells {w : World} {B b : Nat} {me : Int} {l : List Rd} {h : Nat → Int} {a : Option Addr} {cap : Nat} (k : Book w B b me l h a cap) :
    w.cell? ⟨b, 0, none⟩ = some (.int .i64 me) ∧ w.cell? ⟨b, 1, none⟩ = some (.bool true) ∧ w.cell? ⟨b, 2, none⟩ = some (.slice a l.length cap) :=
  ⟨cell_of k.blk 0 rfl, cell_of k.blk 1 rfl, cell_of k.blk 2 rfl⟩
theorem Book.hears {w : World} {B b : Nat} {me : Int} {l : List Rd} {h : Nat → Int} {a : Option Addr} {cap : Nat} (k : Book w B b me l h a cap) {j : Nat} (hj : j < 16) :
    w.cell? ⟨b, 3 + j, none⟩ = some (.int .i64 (h j)) := by
  refine cell_of k.blk (3 + j) ?_
  unfold bookCells
  rw [List.getElem?_toArray, show 3 + j = j + 1 + 1 + 1 by omega, List.getElem?_cons_succ, List.getElem?_cons_succ, List.getElem?_cons_succ]
  exact sixteen_get h j hj

/-- append onto a list of one's own: where the new list lies. -/
theorem wpList_app_at {P : Program} {w : World} {ops : Array Oper} {rest : List Oper} {o : Oper} {ac : Act} {Q : Exit → Act → World → Prop} (hgd : o.guard = none) (s x : Operand) (t : TypeId)
    (ho : o.op = .call { callee := .builtin .append, args := #[s, x], argTypes := #[t, t] })
    (B : Nat) (e : TypeId) {size bytes : Nat} {z : Value} (hinfo : (P.info? e).map (fun i => (i.zero, i.size, i.bytes)) = some (some z, size, bytes)) (ht : P.underlying t = some (.slice e)) (hzs : z.cells.size = size) (hsz : 0 < size)
    {a : Option Addr} {n cap : Nat} {xs : List Value} (hs : ac.eval s = .slice a n cap) (hown : Owns w B e size a n cap xs)
    {ad : Addr} {m c : Nat} {news : List Value} (hx : ac.eval x = .slice (some ad) m c) (hl : news.length = m * size) (hnews : ∀ j u, news[j]? = some u → w.cell? (ad.add j) = some u) (h1 : ∀ u ∈ news, u.oneCell' = true)
    (h63 : n + m ≤ maxLen) (hbytes : (n + m) * bytes ≤ 140737488355328) (hbase : B ≤ w.heap.size)
    (h : ∀ a' cap' w', Owns w' B e size a' (n + m) cap' (xs ++ news) → Kp (fun k => some k = blockOf a) w w' → (blockOf a' = blockOf a ∨ blockOf a' = some w.heap.size) → wpList P ops Q rest (ac.put o.dst (.slice a' (n + m) cap')) w') : wpList P ops Q (o :: rest) ac w := by
  obtain ⟨i, hi, hz0, hz1, hz2⟩ := info_parts hinfo
  refine wpList_append_own_at w hgd s x t ho B e i z size bytes ht hi hz0 hz1 hz2 hzs hsz _ n xs hs hown ad m c news hx hl hnews h1 h63 hbytes hbase ?_
  intro v' w' hown' hg _ hwh
  obtain ⟨a', cap', rfl, ho'⟩ := Owns.shape hown'
  rw [blockOf_own, blockOf_own] at hwh
  refine h a' cap' w' ho' ?_ hwh
  have := Kp.of_grown hg
  rw [blockOf_own] at this
  exact this
theorem info57 : (Try.prog.info? 57).map (fun i => (i.zero, i.size, i.bytes)) = some (some (.agg #[.int .i64 0, .int .i64 0, .int .i64 0]), 3, 24) := by kernel_rfl
theorem info74 : (Try.prog.info? 74).map (fun i => (i.zero, i.size, i.bytes)) = some (some (.agg #[.int .i64 0, .int .i64 0, .int .i64 0]), 3, 24) := by kernel_rfl
theorem info39 : (Try.prog.info? 39).map (fun i => (i.zero, i.size, i.bytes)) = some (some (.agg #[.int .i64 0, .int .i64 0]), 2, 16) := by kernel_rfl
theorem info75 : (Try.prog.info? 75).map (fun i => (i.zero, i.size, i.bytes)) = some (some (.agg #[.int .i64 0, .int .i64 0]), 2, 16) := by kernel_rfl
end Go.Proofs.Ytdkgbjbfmempdaa
