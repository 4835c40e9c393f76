/- Slices of slices: the empty literal; rows out of literals; what returns a row of slices. -/
import Derived.Test.YtfinekmegiengaaMem7
namespace Go.Proofs.Ytfinekmegiengaa
open Go.RowKit
set_option linter.unusedSimpArgs false
set_option linter.unusedVariables false
theorem blk_add (ad : Addr) (i : Nat) : (ad.add i).block = ad.block := by unfold Addr.add; split <;> rfl
theorem bcell {W w1 : World} (hb : Below W.heap.size W w1) : (∀ b o, b < W.heap.size → w1.cell? ⟨b, o, none⟩ = W.cell? ⟨b, o, none⟩) ∧ (∀ b o, b < W.heap.size → w1.frozen? ⟨b, o, none⟩ = W.frozen? ⟨b, o, none⟩) :=
  ⟨fun b o h => hb.cell (p := ⟨b, o, none⟩) h, fun b o h => hb.frozen (p := ⟨b, o, none⟩) h⟩

/-- '[][]byte{}' -/
theorem wpList_buildL0 {w : World} {ops : Array Oper} {rest : List Oper} {o : Oper} {a : Act} {Q : Exit → Act → World → Prop} {parts : Array (Nat × Operand)}
    (hg : Region.wanted o (yielded ops a.tmps) = true) (ho : o.op = .buildSlice 38 0 parts) (hp : (parts.toList.map fun q => (q.1, a.eval q.2)) = [])
    (hK : ∀ g w', w.heap.size ≤ g → g < w'.heap.size → OwnL w.heap.size w' (.slice (some ⟨g, 0, none⟩) 0 0) [] → Below w.heap.size w w' → wpList Try.prog ops Q rest (a.put o.dst (.slice (some ⟨g, 0, none⟩) 0 0)) w') : wpList Try.prog ops Q (o :: rest) a w :=
  wpList_buildSlice Try.underlying38 info_bs (by omega) #[] hg ho (by
    rw [zeroRow_one (.slice none 0 0) 0 rfl]
    have h := fill_ones [] [] [] (fun v hv => by simp at hv) rfl
    rw [Array.toList_map, hp]
    simpa using h) fun g w' h1 h2 h3 h4 => hK g w' h1 h2 ⟨[], own_of_row h3 (n := 0) rfl h1 (by unfold maxLen; omega), Reads.nil _ _, fun g _ y hy => by simp at hy⟩ h4

theorem own_row {w : World} {base e n g : Nat} {xs : List Value} (h : w.ownsRow base e 1 (.slice (some ⟨g, 0, none⟩) n n) n xs) : Row w g e xs.toArray := by
  obtain ⟨hl, h | ⟨g', cap, cur, hv, hb, hg, hn, hm, hs, ht⟩⟩ := h
  · cases h.1
  · simp only [Value.slice.injEq, Option.some.injEq, Addr.mk.injEq, true_and, and_true] at hv
    obtain ⟨rfl, rfl⟩ := hv
    rw [Nat.mul_one] at hs ht
    rw [List.take_of_length_le (by rw [Array.length_toList, hs]; exact Nat.le_refl _)] at ht
    rw [← ht]
    exact hg
theorem below_ownL {B base : Nat} {w w' : World} {v : Value} {L : List (List Nat)} (hg : w.grownBy w' v.ownBlock) (hown : OwnL base w v L) (hB : B ≤ base) (hw : B ≤ w.heap.size) : Below B w w' :=
  let ⟨_, h1, _⟩ := hown; below_own hg h1 hB hw
theorem take_succ_getL {α : Type} (l : List α) (k : Nat) (d : α) (h : k < l.length) : l.take (k + 1) = l.take k ++ [l.getD k d] := by
  rw [List.take_succ_eq_append_getElem h]
  simp [List.getElem?_eq_getElem h]
theorem getD_take {α : Type} (l : List α) (k j : Nat) (d : α) (h : j < k) : (l.take k).getD j d = l.getD j d := by
  rw [List.getD_eq_getElem?_getD, List.getElem?_take, if_pos h, List.getD_eq_getElem?_getD]
/-- it returns a row of its own of slices that read L -/
def RetL (L : List (List Nat)) (w : World) (e : Ending) (w' : World) : Prop := ∃ v', e = .returned v' ∧ OwnL w.heap.size w' v' L ∧ Below w.heap.size w w'
end Go.Proofs.Ytfinekmegiengaa
