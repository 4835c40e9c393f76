/- Slices of slices of bytes: read, indexed, built, appended to. -/
import Derived.Test.YtfinekmegiengaaMem6
import Derived.Maps.AppendAt
namespace Go.Proofs.Ytfinekmegiengaa
open Go.RowKit
set_option linter.unusedSimpArgs false
set_option linter.unusedVariables false

theorem info_bs : (Try.prog.info? 28).map (fun i => (i.zero, i.size, i.bytes)) = some (some (.slice none 0 0), 1, 24) := by kernel_rfl
theorem size_bs : (Try.prog.info? 28).map (·.size) = some 1 := by kernel_rfl
/-- the values vs read the lists of L, in blocks below B -/
def Reads (B : Nat) (w : World) (vs : List Value) (L : List (List Nat)) : Prop := vs.length = L.length ∧ ∀ (i : Nat) (x : List Nat), L[i]? = some x → ∃ y, vs[i]? = some y ∧ RdB B w y x
theorem Reads.mono {B : Nat} {w w' : World} {vs : List Value} {L : List (List Nat)} (h : Reads B w vs L) (hb : Below B w w') : Reads B w' vs L :=
  ⟨h.1, fun i x hx => let ⟨y, hy, hr⟩ := h.2 i x hx; ⟨y, hy, hr.mono hb⟩⟩
theorem Reads.up {B B' : Nat} {w : World} {vs : List Value} {L : List (List Nat)} (h : Reads B w vs L) (hb : B ≤ B') : Reads B' w vs L :=
  ⟨h.1, fun i x hx => let ⟨y, hy, hr⟩ := h.2 i x hx; ⟨y, hy, hr.up hb⟩⟩
theorem Reads.next {w w' : World} {vs : List Value} {L : List (List Nat)} (h : Reads w.heap.size w vs L) (hb : Below w.heap.size w w') : Reads w'.heap.size w' vs L := (h.mono hb).up hb.size
theorem Reads.nil (B : Nat) (w : World) : Reads B w [] [] := ⟨rfl, fun i x hx => by simp at hx⟩
theorem Reads.snoc {B : Nat} {w : World} {vs : List Value} {L : List (List Nat)} (h : Reads B w vs L) {y : Value} {x : List Nat} (hy : RdB B w y x) : Reads B w (vs ++ [y]) (L ++ [x]) := by
  refine ⟨by simp [h.1], fun i u hu => ?_⟩
  by_cases hi : i < L.length
  · rw [List.getElem?_append_left hi] at hu
    obtain ⟨z, hz, hr⟩ := h.2 i u hu
    exact ⟨z, by rw [List.getElem?_append_left (by rw [h.1]; exact hi)]; exact hz, hr⟩
  · have hi2 : i = L.length := by
      have := (List.getElem?_eq_some_iff.1 hu).1
      simp at this
      omega
    subst hi2
    simp at hu
    subst hu
    exact ⟨y, by rw [← h.1]; simp, hy⟩
/-- all are slices: of one cell each -/
def Slices (vs : List Value) : Prop := ∀ v ∈ vs, ∃ a n c, v = .slice a n c
theorem Slices.oneCell {vs : List Value} (h : Slices vs) : ∀ u ∈ vs, u.oneCell' = true := fun u hu => by obtain ⟨a, n, c, rfl⟩ := h u hu; rfl
theorem Reads.slices {B : Nat} {w : World} {vs : List Value} {L : List (List Nat)} (h : Reads B w vs L) : Slices vs := by
  intro v hv
  obtain ⟨i, hi, rfl⟩ := List.getElem_of_mem hv
  obtain ⟨y, hy, hr⟩ := h.2 i (L[i]'(by rw [← h.1]; exact hi)) (List.getElem?_eq_getElem _)
  rw [List.getElem?_eq_getElem hi] at hy
  obtain rfl := Option.some.inj hy
  obtain ⟨_, a, c, hv, _⟩ := hr
  exact ⟨a, _, c, hv⟩

/-- v is a slice of slices that reads L -/
def RdL (B : Nat) (w : World) (v : Value) (L : List (List Nat)) : Prop := ∃ vs, RdS B 1 w v L.length vs ∧ Reads B w vs L
theorem RdL.mono {B : Nat} {w w' : World} {v : Value} {L : List (List Nat)} (h : RdL B w v L) (hb : Below B w w') : RdL B w' v L := let ⟨vs, h1, h2⟩ := h; ⟨vs, h1.mono hb, h2.mono hb⟩
theorem RdL.up {B B' : Nat} {w : World} {v : Value} {L : List (List Nat)} (h : RdL B w v L) (hb : B ≤ B') : RdL B' w v L := let ⟨vs, h1, h2⟩ := h; ⟨vs, h1.up hb, h2.up hb⟩
theorem RdL.next {w w' : World} {v : Value} {L : List (List Nat)} (h : RdL w.heap.size w v L) (hb : Below w.heap.size w w') : RdL w'.heap.size w' v L := (h.mono hb).up hb.size
/-- a slice that does not lie in block g, or is empty -/
def Apart (g : Nat) (v : Value) : Prop := ∀ ad n c, v = .slice (some ad) n c → 0 < n → ad.block ≠ g
theorem RdB.apart {B : Nat} {w : World} {v : Value} {l : List Nat} (h : RdB B w v l) {g : Nat} (hg : B ≤ g) : Apart g v := by
  intro ad n c he hn
  obtain ⟨hl, a', c', hv', _, hcell⟩ := h
  rw [he] at hv'
  simp only [Value.slice.injEq] at hv'
  obtain ⟨ha, hn', _⟩ := hv'
  obtain ⟨ad', hea, hB, _⟩ := hcell 0 _ (List.getElem?_eq_getElem (by rw [bv_length]; omega))
  rw [← ha] at hea
  obtain rfl := Option.some.inj hea
  omega
theorem own_apart {base e s : Nat} {w : World} {v : Value} {n : Nat} {xs : List Value} (h : w.ownsRow base e s v n xs) {g : Nat} (hg : g < base) : Apart g v := by
  intro ad n' c he _
  rcases h.2 with ⟨rfl, _⟩ | ⟨g', cap, cur, rfl, hb, _⟩
  · cases he
  · simp only [Value.slice.injEq, Option.some.injEq] at he
    rw [← he.1]
    show g' ≠ g
    omega
theorem RdS.grown_apart {B s : Nat} {w w' : World} {v : Value} {n : Nat} {cs : List Value} (h : RdS B s w v n cs) {r : Option Nat} (hg : w.grownBy w' r) (ha : ∀ g, r = some g → Apart g v) : RdS B s w' v n cs := by
  obtain ⟨hl, a, c, hv, hc, hr⟩ := h
  refine ⟨hl, a, c, hv, hc, fun i x hx => ?_⟩
  obtain ⟨ad, rfl, hB, hcell⟩ := hr i x hx
  have hblk : (ad.add i).block = ad.block := by unfold Addr.add; split <;> rfl
  have hn : 0 < n := by
    have hi := (List.getElem?_eq_some_iff.1 hx).1
    rw [hl] at hi
    rcases Nat.eq_zero_or_pos n with h0 | h0
    · subst h0; simp at hi
    · exact h0
  exact ⟨ad, rfl, hB, hg.cell hcell (by rw [hblk]; intro h0; exact ha _ h0.symm ad n c hv hn rfl)⟩
/-- v is a row of its own of slices that read L -/
def OwnL (base : Nat) (w : World) (v : Value) (L : List (List Nat)) : Prop :=
  ∃ vs, w.ownsRow base 28 1 v L.length vs ∧ Reads w.heap.size w vs L ∧ ∀ g, v.ownBlock = some g → ∀ y ∈ vs, Apart g y
theorem OwnL.nil (base : Nat) (w : World) : OwnL base w (.slice none 0 0) [] := ⟨[], World.ownsRow_nil _ _ _ _, Reads.nil _ _, fun g hg => by cases hg⟩
theorem OwnL.rd {base : Nat} {w : World} {v : Value} {L : List (List Nat)} (h : OwnL base w v L) : RdL w.heap.size w v L := let ⟨vs, h1, h2, _⟩ := h; ⟨vs, RdS.of_own h1, h2⟩
theorem OwnL.next {base : Nat} {w w' : World} {v : Value} {L : List (List Nat)} (h : OwnL base w v L) (hb : Below w.heap.size w w') : OwnL base w' v L := let ⟨vs, h1, h2, h3⟩ := h; ⟨vs, own_next h1 hb, h2.next hb, h3⟩
theorem OwnL.base {base base' : Nat} {w : World} {v : Value} {L : List (List Nat)} (h : OwnL base w v L) (hb : base' ≤ base) : OwnL base' w v L := let ⟨vs, h1, h2, h3⟩ := h; ⟨vs, own_base h1 hb, h2, h3⟩
theorem OwnL.block_lt {base : Nat} {w : World} {v : Value} {L : List (List Nat)} (h : OwnL base w v L) : ∀ g, v.ownBlock = some g → base ≤ g ∧ g < w.heap.size := let ⟨vs, h1, h2, h3⟩ := h; h1.lt

/-- an append onto a row, and where the new slice lies -/
theorem wpList_append_at {P : Program} {w : World} {ops : Array Oper} {rest : List Oper} {o : Oper} {a : Act} {Q : Exit → Act → World → Prop} {sO xO : Operand} {t : TypeId} (hg : Region.wanted o (yielded ops a.tmps) = true) (ho : o.op = .call { callee := .builtin .append, args := #[sO, xO], argTypes := #[t, t] })
    {base : Nat} {e : TypeId} {z : Value} {size bytes : Nat} (ht : P.underlying t = some (.slice e)) (hi : (P.info? e).map (fun i => (i.zero, i.size, i.bytes)) = some (some z, size, bytes)) (hzs : z.cells.size = size) (hsz : 0 < size)
    {v : Value} {n : Nat} {xs : List Value} (hs : a.eval sO = v) (hown : w.ownsRow base e size v n xs) {B m : Nat} {y : Value} {ys : List Value} (hx : a.eval xO = y) (h : RdS B size w y m ys) (hne : ys ≠ []) (h1 : ∀ u ∈ ys, u.oneCell' = true)
    (h63 : n + m ≤ 140737488351232) (hbytes : (n + m) * bytes ≤ 140737488355328) (hbase : base ≤ w.heap.size)
    (hK : ∀ v' w', w'.ownsRow base e size v' (n + m) (xs ++ ys) → w.grownBy w' v.ownBlock → (v'.ownBlock = v.ownBlock ∨ v'.ownBlock = some w.heap.size) → wpList P ops Q rest (a.put o.dst v') w') : wpList P ops Q (o :: rest) a w := by
  obtain ⟨i, hi', hz, hs', hb⟩ := info_parts hi
  obtain ⟨ad, c, rfl, hc, hB, hr⟩ := h.addr hne
  obtain ⟨v', w', hrun, h2, h3, _, h5⟩ := run_append_own_at (P := P) w base t o.type e i z size bytes ht hi' hz hs' hb hzs hsz v n xs hown ad m c ys h.1 hr h1 (by unfold maxLen; omega) hbytes hbase
  refine wpList_go hg fun K hK' => ?_
  unfold Oper.wp
  simp [execOp, ho, resolve, invoke, builtin, hs, hx, hrun, Result.andThen]
  exact hK' _ _ (hK v' w' h2 h3 h5)

section
variable {w : World} {ops : Array Oper} {rest : List Oper} {o : Oper} {a : Act} {Q : Exit → Act → World → Prop}
theorem wpList_lenL {x : Operand} {v : Value} {B : Nat} {L : List (List Nat)} (h : RdL B w v L)
    (hg : Region.wanted o (yielded ops a.tmps) = true) (ho : o.op = .call { callee := .builtin .len, args := #[x], argTypes := #[38] }) (hx : a.eval x = v)
    (hK : wpList Try.prog ops Q rest (a.put o.dst (.int .i64 L.length)) w) : wpList Try.prog ops Q (o :: rest) a w := by
  obtain ⟨vs, h1, h2⟩ := h
  exact wpList_len hg ho Try.underlying38 hx h1 hK
theorem wpList_indexL {x j : Operand} {v : Value} {B : Nat} {L : List (List Nat)} (h : RdL B w v L) (i : Nat) (hi : i < L.length)
    {k : IntKind} {J : Int} (hg : Region.wanted o (yielded ops a.tmps) = true) (ho : o.op = .indexAddr 38 x j) (hx : a.eval x = v) (hj : a.eval j = .int k J) (hJ : J = (i : Int))
    (hK : ∀ (p : Addr) (y : Value), p.block < B → w.cell? p = some y → RdB B w y (L.getD i []) → wpList Try.prog ops Q rest (a.put o.dst (.pointer (some p))) w) : wpList Try.prog ops Q (o :: rest) a w := by
  obtain ⟨vs, h1, h2⟩ := h
  refine wpList_index hg ho Try.underlying38 size_bs hx hj hJ h1 hi (by omega) fun p hp hc => ?_
  obtain ⟨y, hy, hr⟩ := h2.2 i _ (List.getElem?_eq_getElem hi)
  refine hK p y hp ?_ (by rw [List.getD_eq_getElem?_getD, List.getElem?_eq_getElem hi]; exact hr)
  have := hc 0 y (by omega) (by rw [Nat.mul_one, Nat.add_zero]; exact hy)
  rwa [Addr.add_zero'] at this
theorem RdL.at {B : Nat} {w : World} {v : Value} {L : List (List Nat)} (h : RdL B w v L) {k : Nat} (hk : k < L.length) :
    ∃ ad c y, v = .slice (some ad) L.length c ∧ ad.block < B ∧ w.cell? (ad.add k) = some y ∧ RdB B w y (L.getD k []) := by
  obtain ⟨vs, h1, h2⟩ := h
  obtain ⟨y, hy, hr⟩ := h2.2 k _ (List.getElem?_eq_getElem hk)
  obtain ⟨ad, c, rfl, _, hB, hcell⟩ := h1.addr (by intro h0; rw [h0] at hy; simp at hy)
  exact ⟨ad, c, y, rfl, hB, hcell k y hy, by rw [List.getD_eq_getElem?_getD, List.getElem?_eq_getElem hk]; exact hr⟩
/-- '[][]byte{y}', as what is appended: its cell is a new block -/
theorem wpList_buildL1 {parts : Array (Nat × Operand)} (y : Value) (hy : y.cells = #[y])
    (hg : Region.wanted o (yielded ops a.tmps) = true) (ho : o.op = .buildSlice 38 1 parts) (hf : (parts.toList.map fun q => (q.1, a.eval q.2)) = [(0, y)])
    (hK : ∀ g w', w.heap.size ≤ g → g < w'.heap.size → RdS w'.heap.size 1 w' (.slice (some ⟨g, 0, none⟩) 1 1) 1 [y] → Below w.heap.size w w' → wpList Try.prog ops Q rest (a.put o.dst (.slice (some ⟨g, 0, none⟩) 1 1)) w') : wpList Try.prog ops Q (o :: rest) a w :=
  wpList_buildSlice Try.underlying38 info_bs (by omega) [y].toArray hg ho (by
    rw [zeroRow_one (.slice none 0 0) 1 rfl]
    have h := fill_ones [y] [] (List.replicate 1 (.slice none 0 0)) (fun v hv => by simp at hv; subst hv; exact hy) (by simp)
    rw [Array.toList_map, hf]
    simpa using h) fun g w' h1 h2 h3 h4 => hK g w' h1 h2 (by
      have := RdS.of_row h3 (n := 1) (cap := 1) (s := 1) (by simp) (Nat.le_refl _)
      exact this.up h2) h4
/-- an append of one slice to a row of slices -/
theorem wpList_appendL {sO xO : Operand} {base : Nat} {v : Value} {L : List (List Nat)} (hown : OwnL base w v L) {B : Nat} {y u : Value} {x : List Nat} (hr : RdB w.heap.size w y x) (hap : ∀ g, v.ownBlock = some g → Apart g y) (h : RdS B 1 w u 1 [y])
    (hg : Region.wanted o (yielded ops a.tmps) = true) (ho : o.op = .call { callee := .builtin .append, args := #[sO, xO], argTypes := #[38, 38] }) (hs : a.eval sO = v) (hx : a.eval xO = u)
    (h63 : L.length ≤ 1000000) (hbase : base ≤ w.heap.size)
    (hK : ∀ v' w', OwnL base w' v' (L ++ [x]) → w.grownBy w' v.ownBlock → wpList Try.prog ops Q rest (a.put o.dst v') w') : wpList Try.prog ops Q (o :: rest) a w := by
  obtain ⟨vs, h1, h2, h3⟩ := hown
  have hys : Slices [y] := fun z hz => by
    simp at hz
    subst hz
    obtain ⟨_, ay, cy, hye, _⟩ := hr
    exact ⟨_, _, _, hye⟩
  refine wpList_append_at hg ho Try.underlying38 info_bs rfl (by omega) hs h1 hx h (by simp) hys.oneCell (by omega) (by omega) hbase fun v' w' h4 h5 h6 => ?_
  have hrd : Reads w'.heap.size w' vs L := ⟨h2.1, fun i x' hx' => by
    obtain ⟨y', hy', hr'⟩ := h2.2 i x' hx'
    exact ⟨y', hy', (RdS.grown_apart hr' h5 (fun g hg => h3 g hg y' (List.mem_of_getElem? hy'))).up h5.size⟩⟩
  refine hK v' w' ⟨vs ++ [y], by rw [List.length_append]; exact h4, hrd.snoc ((RdS.grown_apart hr h5 hap).up h5.size), fun g hg z hz => ?_⟩ h5
  rcases List.mem_append.1 hz with hz | hz
  · rcases h6 with h6 | h6
    · exact h3 g (h6 ▸ hg) z hz
    · rw [h6] at hg
      obtain rfl := Option.some.inj hg
      obtain ⟨i, hi, rfl⟩ := List.getElem_of_mem hz
      obtain ⟨y', hy', hr'⟩ := h2.2 i (L[i]'(by rw [← h2.1]; exact hi)) (List.getElem?_eq_getElem _)
      rw [List.getElem?_eq_getElem hi] at hy'
      obtain rfl := Option.some.inj hy'
      exact hr'.apart (Nat.le_refl _)
  · simp at hz
    subst hz
    rcases h6 with h6 | h6
    · exact hap g (h6 ▸ hg)
    · rw [h6] at hg
      obtain rfl := Option.some.inj hg
      exact hr.apart (Nat.le_refl _)
end
end Go.Proofs.Ytfinekmegiengaa
