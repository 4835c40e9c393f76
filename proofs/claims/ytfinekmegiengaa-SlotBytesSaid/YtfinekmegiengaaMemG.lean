/- Rows of slices that are apart from a block that is written; rows of ints that are written. -/
import Derived.Test.YtfinekmegiengaaMemI
namespace Go.Proofs.Ytfinekmegiengaa
open Go.RowKit
set_option linter.unusedSimpArgs false
set_option linter.unusedVariables false
set_option maxRecDepth 100000

theorem size_setRow (w : World) (g : Nat) (c : Array Value) : (w.setRow g c).heap.size = w.heap.size := by
  unfold World.setRow
  simp
theorem RdS.setRow_apart {B s : Nat} {w : World} {v : Value} {n : Nat} {cs : List Value} (h : RdS B s w v n cs) (g : Nat) (c : Array Value) (ha : Apart g v) : RdS B s (w.setRow g c) v n cs := by
  obtain ⟨hl, a, k, hv, hc, hr⟩ := h
  refine ⟨hl, a, k, hv, hc, fun i x hx => ?_⟩
  obtain ⟨ad, rfl, hB, hcell⟩ := hr i x hx
  have hn : 0 < n := by
    have hi := (List.getElem?_eq_some_iff.1 hx).1
    rw [hl] at hi
    rcases Nat.eq_zero_or_pos n with h0 | h0
    · subst h0; simp at hi
    · exact h0
  refine ⟨ad, rfl, hB, ?_⟩
  have hne := ha ad n k hv hn
  have : (w.setRow g c).heap[(ad.add i).block]? = w.heap[(ad.add i).block]? := heap_setRow_other w g _ c (by rw [blk_add]; exact hne)
  rw [← hcell]
  simp [World.cell?, this]
theorem own_setRow {base e s : Nat} {w : World} {v : Value} {n : Nat} {xs : List Value} (h : w.ownsRow base e s v n xs) (g : Nat) (c : Array Value) (hg : g < base) : (w.setRow g c).ownsRow base e s v n xs := by
  refine ⟨h.1, ?_⟩
  rcases h.2 with h0 | ⟨g', cap, cur, rfl, hb, hg', hn, hm, hs, ht⟩
  · exact .inl h0
  · exact .inr ⟨g', cap, cur, rfl, hb, (heap_setRow_other w g g' c (by omega)).trans hg', hn, hm, hs, ht⟩

/-- a row of its own of slices that read L; none of them lies in block g -/
def OwnG (g base : Nat) (w : World) (v : Value) (L : List (List Nat)) : Prop :=
  ∃ vs, w.ownsRow base 28 1 v L.length vs ∧ Reads w.heap.size w vs L ∧ (∀ k, v.ownBlock = some k → ∀ y ∈ vs, Apart k y) ∧ ∀ y ∈ vs, Apart g y
theorem OwnG.nil (g base : Nat) (w : World) : OwnG g base w (.slice none 0 0) [] := ⟨[], World.ownsRow_nil _ _ _ _, Reads.nil _ _, fun k hk => (by cases hk), fun y hy => by simp at hy⟩
theorem OwnG.toL {g base : Nat} {w : World} {v : Value} {L : List (List Nat)} (h : OwnG g base w v L) : OwnL base w v L := let ⟨vs, h1, h2, h3, _⟩ := h; ⟨vs, h1, h2, h3⟩
theorem OwnG.next {g base : Nat} {w w' : World} {v : Value} {L : List (List Nat)} (h : OwnG g base w v L) (hb : Below w.heap.size w w') : OwnG g base w' v L := let ⟨vs, h1, h2, h3, h4⟩ := h; ⟨vs, own_next h1 hb, h2.next hb, h3, h4⟩
theorem OwnG.setRow {g base : Nat} {w : World} {v : Value} {L : List (List Nat)} (h : OwnG g base w v L) (c : Array Value) (hg : g < base) : OwnG g base (w.setRow g c) v L := by
  obtain ⟨vs, h1, h2, h3, h4⟩ := h
  refine ⟨vs, own_setRow h1 g c hg, ⟨h2.1, fun i x hx => ?_⟩, h3, h4⟩
  obtain ⟨y, hy, hr⟩ := h2.2 i x hx
  refine ⟨y, hy, ?_⟩
  rw [size_setRow]
  exact RdS.setRow_apart hr g c (h4 y (List.mem_of_getElem? hy))
section
variable {w : World} {ops : Array Oper} {rest : List Oper} {o : Oper} {a : Act} {Q : Exit → Act → World → Prop}
/-- an append of one slice to a row of slices, the values told -/
theorem wpList_appendV {sO xO : Operand} {base : Nat} {v : Value} {L : List (List Nat)} {vs : List Value} (h1 : w.ownsRow base 28 1 v L.length vs) (h2 : Reads w.heap.size w vs L) (h3 : ∀ k, v.ownBlock = some k → ∀ y ∈ vs, Apart k y)
    {B : Nat} {y u : Value} {x : List Nat} (hr : RdB w.heap.size w y x) (hap : ∀ g, v.ownBlock = some g → Apart g y) (h : RdS B 1 w u 1 [y])
    (hg : Region.wanted o (yielded ops a.tmps) = true) (ho : o.op = .call { callee := .builtin .append, args := #[sO, xO], argTypes := #[38, 38] }) (hs : a.eval sO = v) (hx : a.eval xO = u)
    (h63 : L.length ≤ 1000000) (hbase : base ≤ w.heap.size)
    (hK : ∀ v' w', w'.ownsRow base 28 1 v' (L ++ [x]).length (vs ++ [y]) → Reads w'.heap.size w' (vs ++ [y]) (L ++ [x]) → (∀ k, v'.ownBlock = some k → ∀ z ∈ vs ++ [y], Apart k z) → w.grownBy w' v.ownBlock → wpList Try.prog ops Q rest (a.put o.dst v') w') : wpList Try.prog ops Q (o :: rest) a w := by
  have hys : Slices [y] := fun z hz => by
    simp at hz
    subst hz
    obtain ⟨_, ay, cy, hye, _⟩ := hr
    exact ⟨_, _, _, hye⟩
  refine wpList_append_at hg ho Try.underlying38 info_bs rfl (by omega) hs h1 hx h (by simp) hys.oneCell (by omega) (by omega) hbase fun v' w' h4 h5 h6 => ?_
  have hrd : Reads w'.heap.size w' vs L := ⟨h2.1, fun i x' hx' => by
    obtain ⟨y', hy', hr'⟩ := h2.2 i x' hx'
    exact ⟨y', hy', (RdS.grown_apart hr' h5 (fun g hg => h3 g hg y' (List.mem_of_getElem? hy'))).up h5.size⟩⟩
  refine hK v' w' (by rw [List.length_append]; exact h4) (hrd.snoc ((RdS.grown_apart hr h5 hap).up h5.size)) (fun g hg z hz => ?_) h5
  rcases List.mem_append.1 hz with hz | hz
  · rcases h6 with h6 | h6
    · exact h3 g (h6 ▸ hg) z hz
    · rw [h6] at hg
      obtain rfl := Option.some.inj hg
      obtain ⟨i, hi, rfl⟩ := List.getElem_of_mem hz
      obtain ⟨y', hy', hr'⟩ := h2.2 i (L[i]'(by rw [← h2.1]; exact hi)) (List.getElem?_eq_getElem _)
      rw [List.getElem?_eq_getElem hi] at hy'
      obtain rfl := Option.some.inj hy'
      exact hr'.apart (Nat.le_refl _)
  · simp at hz
    subst hz
    rcases h6 with h6 | h6
    · exact hap g (h6 ▸ hg)
    · rw [h6] at hg
      obtain rfl := Option.some.inj hg
      exact hr.apart (Nat.le_refl _)
theorem wpList_appendG {sO xO : Operand} {g base : Nat} {v : Value} {L : List (List Nat)} (hown : OwnG g base w v L) {B : Nat} {y u : Value} {x : List Nat} (hr : RdB w.heap.size w y x) (hap : ∀ g, v.ownBlock = some g → Apart g y) (hag : Apart g y) (h : RdS B 1 w u 1 [y])
    (hg : Region.wanted o (yielded ops a.tmps) = true) (ho : o.op = .call { callee := .builtin .append, args := #[sO, xO], argTypes := #[38, 38] }) (hs : a.eval sO = v) (hx : a.eval xO = u)
    (h63 : L.length ≤ 1000000) (hbase : base ≤ w.heap.size)
    (hK : ∀ v' w', OwnG g base w' v' (L ++ [x]) → w.grownBy w' v.ownBlock → wpList Try.prog ops Q rest (a.put o.dst v') w') : wpList Try.prog ops Q (o :: rest) a w := by
  obtain ⟨vs, h1, h2, h3, h4⟩ := hown
  exact wpList_appendV h1 h2 h3 hr hap h hg ho hs hx h63 hbase fun v' w' k1 k2 k3 k4 => hK v' w' ⟨_, k1, k2, k3, fun z hz => (List.mem_append.1 hz).elim (h4 z) (fun hz => by simp at hz; subst hz; exact hag)⟩ k4
end

/-- one cell of a row of its own, written -/
theorem own_set {base e : Nat} {w : World} {n g c : Nat} {xs : List Value} (h : w.ownsRow base e 1 (.slice (some ⟨g, 0, none⟩) n c) n xs) (i : Nat) (hi : i < n) (u : Value) : (w.setCell ⟨g, i, none⟩ u).ownsRow base e 1 (.slice (some ⟨g, 0, none⟩) n c) n (xs.set i u) := by
  obtain ⟨hl, h | ⟨g', cap, cur, hv, hb, hg, hn, hm, hs, ht⟩⟩ := h
  · cases h.1
  · simp only [Value.slice.injEq, Option.some.injEq, Addr.mk.injEq, true_and, and_true] at hv
    obtain ⟨rfl, rfl⟩ := hv
    refine ⟨by rw [List.length_set]; exact hl, .inr ⟨_, _, _, rfl, hb, heap_setCell_same w _ i _ _ u hg, hn, hm, by rw [Array.size_setIfInBounds]; exact hs, ?_⟩⟩
    rw [Array.toList_setIfInBounds, List.take_set, ht]
theorem own_frozen {base e : Nat} {w : World} {n g c : Nat} {xs : List Value} (h : w.ownsRow base e 1 (.slice (some ⟨g, 0, none⟩) n c) n xs) (i : Nat) : w.frozen? ⟨g, i, none⟩ = false := by
  obtain ⟨hl, h | ⟨g', cap, cur, hv, hb, hg, hn, hm, hs, ht⟩⟩ := h
  · cases h.1
  · simp only [Value.slice.injEq, Option.some.injEq, Addr.mk.injEq, true_and, and_true] at hv
    obtain ⟨rfl, rfl⟩ := hv
    exact frozen_of_row w _ i _ _ hg
theorem own_cell {base e : Nat} {w : World} {n g c : Nat} {xs : List Value} (h : w.ownsRow base e 1 (.slice (some ⟨g, 0, none⟩) n c) n xs) {i : Nat} {x : Value} (hx : xs[i]? = some x) : w.cell? ⟨g, i, none⟩ = some x := by
  have := h.cells (g := g) rfl i x hx
  rwa [Addr.add_lit, Nat.zero_add] at this
/-- it returns a row of its own of ints -/
def RetOI (l : List Int) (w : World) (e : Ending) (w' : World) : Prop := ∃ v', e = .returned v' ∧ w'.ownsRow w.heap.size 3 1 v' l.length (iv l) ∧ Below w.heap.size w w'
/-- it returns ints -/
def RetRI (l : List Int) (w : World) (e : Ending) (w' : World) : Prop := ∃ v', e = .returned v' ∧ RdI w'.heap.size w' v' l ∧ Below w.heap.size w w'
/-- it returns a row of slices, and OK -/
def RetLE (L : List (List Nat)) (w : World) (e : Ending) (w' : World) : Prop := ∃ v', e = .returned (.tuple #[v', .int .i64 0]) ∧ OwnL w.heap.size w' v' L ∧ Below w.heap.size w w'
end Go.Proofs.Ytfinekmegiengaa
