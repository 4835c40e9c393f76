/- Plain laws of layer 7: a column on its way to being mixed. -/
import Derived.Test.YtfinekmegiengaaPlainE
namespace Nep
/-- a column: its first i bytes mixed, the next one of its first k products, the others nought -/
def mixP (m c : List Nat) (i k : Nat) : List Nat := (List.range 4).map fun j => if j < i then mixA m c j 4 else if j = i then mixA m c i k else 0
theorem mixP_length (m c : List Nat) (i k : Nat) : (mixP m c i k).length = 4 := by simp [mixP]
theorem mixP_zero (m c : List Nat) : mixP m c 0 0 = List.replicate 4 0 := by simp [mixP, mixA, List.range_succ]
theorem mixP_get (m c : List Nat) (i k : Nat) (hi : i < 4) : (mixP m c i k)[i]? = some (mixA m c i k) := by
  unfold mixP
  simp [hi]
theorem mixP_set (m c : List Nat) (i k : Nat) (hi : i < 4) : (mixP m c i k).set i (mixA m c i (k + 1)) = mixP m c i (k + 1) := by
  apply List.ext_getElem?
  intro j
  rw [List.getElem?_set]
  unfold mixP
  by_cases hj : i = j
  · subst hj
    simp [hi]
  · rw [if_neg hj]
    simp only [List.getElem?_map]
    by_cases h4 : j < 4
    · simp [h4, show ¬ j = i by omega]
    · simp [h4]
theorem mixP_next (m c : List Nat) (i : Nat) : mixP m c i 4 = mixP m c (i + 1) 0 := by
  unfold mixP
  apply List.map_congr_left
  intro j hj
  by_cases h1 : j < i
  · rw [if_pos h1, if_pos (by omega)]
  · rw [if_neg h1]
    by_cases h2 : j = i
    · subst h2; rw [if_pos rfl, if_pos (by omega)]
    · rw [if_neg h2, if_neg (by omega)]
      split
      · simp [mixA]
      · rfl
theorem mixP_full (m c : List Nat) : mixP m c 4 0 = mixC m c := by
  unfold mixP mixC
  apply List.map_congr_left
  intro j hj
  rw [if_pos (List.mem_range.1 hj)]
theorem mixP_lt (m c : List Nat) (i k : Nat) : ∀ x ∈ mixP m c i k, x < 256 := by
  intro x hx
  simp only [mixP, List.mem_map] at hx
  obtain ⟨j, _, rfl⟩ := hx
  split
  · exact mixA_lt _ _ _ _
  · split
    · exact mixA_lt _ _ _ _
    · omega
/-- a block, its first n columns mixed, the others nought -/
def colP (m b : List Nat) (n : Nat) : List Nat := mixN m b n ++ List.replicate (16 - 4 * n) 0
theorem colP_length (m b : List Nat) (n : Nat) (hn : n ≤ 4) : (colP m b n).length = 16 := by simp [colP, mixN_length]; omega
theorem colP_zero (m b : List Nat) : colP m b 0 = List.replicate 16 0 := rfl
theorem colP_full (m b : List Nat) : colP m b 4 = mixL m b := by simp [colP, mixL]
theorem colP_next (m b : List Nat) (n : Nat) (hn : n < 4) : (colP m b n).take (4 * n) ++ mixC m ((b.drop (4 * n)).take 4) ++ (colP m b n).drop (4 * n + 4) = colP m b (n + 1) := by
  have hl := mixN_length m b n
  unfold colP
  obtain ⟨c, hc⟩ : ∃ c, c = mixC m ((b.drop (4 * n)).take 4) := ⟨_, rfl⟩
  have hn1 : mixN m b (n + 1) = mixN m b n ++ c := by rw [hc]; rfl
  rw [hn1, ← hc]
  generalize mixN m b n = x at *
  rw [List.take_append, List.drop_append, hl, Nat.sub_self, List.take_zero, List.append_nil, List.take_of_length_le (by omega), List.drop_eq_nil_of_le (by omega : x.length ≤ 4 * n + 4), List.nil_append, List.drop_replicate]
  rw [show 16 - 4 * n - (4 * n + 4 - 4 * n) = 16 - 4 * (n + 1) from by omega]
end Nep
