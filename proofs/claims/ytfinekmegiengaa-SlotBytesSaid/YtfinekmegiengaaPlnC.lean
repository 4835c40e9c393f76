/- Plain laws of layer 8: sixteen bytes, doubled: as bytes, and as coefficients. -/
import Derived.Test.YtfinekmegiengaaPlnB
namespace Nep
/-- doubled -/
def dblA (b : List Nat) (i : Nat) : Nat := b.getD i 0 * 2 % 256 + (if i = 0 then 0 else b.getD (i - 1) 0 / 128)
def dblL (b : List Nat) : List Nat := (List.range 16).map fun i => if i = 0 then dblA b 0 ^^^ (135 * (b.getD 15 0 / 128)) else dblA b i
theorem dblL_length (b : List Nat) : (dblL b).length = 16 := by simp [dblL]
theorem getD_lt {l : List Nat} {n : Nat} (h : ∀ x ∈ l, x < n) (h0 : 0 < n) (i : Nat) : l.getD i 0 < n := by
  rw [List.getD_eq_getElem?_getD]
  rcases Nat.lt_or_ge i l.length with hl | hl
  · rw [List.getElem?_eq_getElem hl]; exact h _ (List.getElem_mem _)
  · rw [List.getElem?_eq_none hl]; exact h0
theorem dblA_lt (b : List Nat) (h : ∀ x ∈ b, x < 256) (i : Nat) : dblA b i < 256 := by
  have := getD_lt h (by omega) (i - 1)
  unfold dblA
  split <;> omega
theorem dblL_bytes (b : List Nat) (h : ∀ x ∈ b, x < 256) : ∀ x ∈ dblL b, x < 256 := by
  intro x hx
  simp only [dblL, List.mem_map] at hx
  obtain ⟨i, _, rfl⟩ := hx
  have h15 := getD_lt h (by omega) 15
  split
  · exact Nat.xor_lt_two_pow (n := 8) (dblA_lt b h 0) (by omega)
  · exact dblA_lt b h i
def dblN (b : List Nat) : Nat → List Nat
  | 0 => b
  | n + 1 => dblL (dblN b n)
theorem dblN_blk (b : List Nat) (hl : b.length = 16) (h : ∀ x ∈ b, x < 256) (n : Nat) : (dblN b n).length = 16 ∧ ∀ x ∈ dblN b n, x < 256 := by
  induction n with
  | zero => exact ⟨hl, h⟩
  | succ n ih => exact ⟨dblL_length _, dblL_bytes _ ih.2⟩
def maskL (b : List Nat) (n : Nat) : List (List Nat) := (List.range n).map (dblN b)
theorem maskL_length (b : List Nat) (n : Nat) : (maskL b n).length = n := by simp [maskL]
theorem maskL_snoc (b : List Nat) (n : Nat) : maskL b (n + 1) = maskL b n ++ [dblN b n] := by simp [maskL, List.range_succ]
theorem maskL_get (b : List Nat) (n i : Nat) (h : i < n) : (maskL b n).getD i [] = dblN b i := by
  simp [maskL, h]

/-- a byte's coefficients -/
def bitI (x j : Nat) : Int := ((x / 2 ^ j % 2 : Nat) : Int)
def bitsB (x n : Nat) : List Int := (List.range n).map (bitI x)
theorem bitsB_length (x n : Nat) : (bitsB x n).length = n := by simp [bitsB]
theorem bitsB_snoc (x n : Nat) : bitsB x (n + 1) = bitsB x n ++ [bitI x n] := by simp [bitsB, List.range_succ]
/-- the coefficients of the first n bytes -/
def bitsN (b : List Nat) : Nat → List Int
  | 0 => []
  | n + 1 => bitsN b n ++ bitsB (b.getD n 0) 8
theorem bitsN_length (b : List Nat) (n : Nat) : (bitsN b n).length = 8 * n := by
  induction n with
  | zero => rfl
  | succ n ih => simp [bitsN, ih, bitsB_length]; omega
theorem bitsN_get (b : List Nat) (n i j : Nat) (hi : i < n) (hj : j < 8) : (bitsN b n).getD (8 * i + j) 0 = bitI (b.getD i 0) j := by
  induction n with
  | zero => omega
  | succ n ih =>
    rw [bitsN, List.getD_eq_getElem?_getD]
    by_cases h : i < n
    · rw [List.getElem?_append_left (by rw [bitsN_length]; omega), ← List.getD_eq_getElem?_getD]
      exact ih h
    · obtain rfl : i = n := by omega
      rw [List.getElem?_append_right (by rw [bitsN_length]; omega), bitsN_length, show 8 * i + j - 8 * i = j from by omega]
      simp [bitsB, hj]
theorem bitI_01 (x j : Nat) : bitI x j = 0 ∨ bitI x j = 1 := by
  unfold bitI; omega
theorem bitsN_01 (b : List Nat) (n : Nat) : ∀ x ∈ bitsN b n, x = 0 ∨ x = 1 := by
  induction n with
  | zero => simp [bitsN]
  | succ n ih =>
    intro x hx
    rw [bitsN, List.mem_append] at hx
    rcases hx with hx | hx
    · exact ih x hx
    · simp only [bitsB, List.mem_map] at hx
      obtain ⟨j, _, rfl⟩ := hx
      exact bitI_01 _ _

/-- 129 coefficients, what is left of them -/
def leftL (c : List Int) : List Int :=
  (if c.getD 128 0 = 1 then (((c.set 0 (1 - c.getD 0 0)).set 1 (1 - c.getD 1 0)).set 2 (1 - c.getD 2 0)).set 7 (1 - c.getD 7 0) else c).take 128
/-- a byte of its coefficients, from the greatest on, k of them -/
def hornI (c : List Int) (i : Nat) : Nat → Int
  | 0 => 0
  | k + 1 => 2 * hornI c i k + c.getD (8 * i + (7 - k)) 0
theorem hornI_lt (c : List Int) (h : ∀ x ∈ c, x = 0 ∨ x = 1) (i k : Nat) : 0 ≤ hornI c i k ∧ hornI c i k < 2 ^ k := by
  induction k with
  | zero => simp [hornI]
  | succ k ih =>
    have hx : c.getD (8 * i + (7 - k)) 0 = 0 ∨ c.getD (8 * i + (7 - k)) 0 = 1 := by
      rw [List.getD_eq_getElem?_getD]
      rcases Nat.lt_or_ge (8 * i + (7 - k)) c.length with hl | hl
      · rw [List.getElem?_eq_getElem hl]; exact h _ (List.getElem_mem _)
      · rw [List.getElem?_eq_none hl]; exact .inl rfl
    rw [hornI, Int.pow_succ]
    omega
def toldI (c : List Int) : List Nat := (List.range 16).map fun i => (hornI c i 8).toNat
theorem toldI_length (c : List Int) : (toldI c).length = 16 := by simp [toldI]

def horn8 (c0 c1 c2 c3 c4 c5 c6 c7 : Int) : Int := 2 * (2 * (2 * (2 * (2 * (2 * (2 * (2 * 0 + c7) + c6) + c5) + c4) + c3) + c2) + c1) + c0
theorem hornI_8 (c : List Int) (i : Nat) : hornI c i 8 = horn8 (c.getD (8 * i + 0) 0) (c.getD (8 * i + 1) 0) (c.getD (8 * i + 2) 0) (c.getD (8 * i + 3) 0) (c.getD (8 * i + 4) 0) (c.getD (8 * i + 5) 0) (c.getD (8 * i + 6) 0) (c.getD (8 * i + 7) 0) := rfl
theorem horn_shift : ∀ c : Nat, c < 2 → ∀ x, x < 256 → (horn8 (c : Int) (bitI x 0) (bitI x 1) (bitI x 2) (bitI x 3) (bitI x 4) (bitI x 5) (bitI x 6)).toNat = x * 2 % 256 + c := by decide +kernel
theorem horn_flip : ∀ x, x < 256 → (horn8 (1 - 0) (1 - bitI x 0) (1 - bitI x 1) (bitI x 2) (bitI x 3) (bitI x 4) (bitI x 5) (1 - bitI x 6)).toNat = (x * 2 % 256) ^^^ 135 := by decide +kernel
theorem bit_top : ∀ x, x < 256 → bitI x 7 = ((x / 128 : Nat) : Int) := by
  intro x hx
  unfold bitI
  omega

theorem getD_set (l : List Int) (i j : Nat) (x : Int) (hi : i < l.length) : (l.set i x).getD j 0 = if i = j then x else l.getD j 0 := by
  rw [List.getD_eq_getElem?_getD, List.getElem?_set]
  by_cases h : i = j
  · subst h; simp [hi]
  · rw [if_neg h, if_neg h, List.getD_eq_getElem?_getD]

/-- doubling by coefficients is doubling by bytes -/
theorem told_left (b : List Nat) (hb : ∀ x ∈ b, x < 256) : toldI (leftL (0 :: bitsN b 16)) = dblL b := by
  obtain ⟨c, hc⟩ : ∃ c : List Int, c = 0 :: bitsN b 16 := ⟨_, rfl⟩
  have hcl : c.length = 129 := by rw [hc]; simp [bitsN_length]
  have h0 : c.getD 0 0 = 0 := by rw [hc]; rfl
  have hs : ∀ m, c.getD (m + 1) 0 = (bitsN b 16).getD m 0 := fun m => by rw [hc]; rfl
  have hm : ∀ i j, i < 16 → j < 8 → c.getD (8 * i + j + 1) 0 = bitI (b.getD i 0) j := fun i j hi hj => by
    rw [hs, bitsN_get b 16 i j hi hj]
  have hB : ∀ i, b.getD i 0 < 256 := fun i => getD_lt hb (by omega) i
  have h128 : c.getD 128 0 = ((b.getD 15 0 / 128 : Nat) : Int) := by
    rw [show 128 = 8 * 15 + 7 + 1 from rfl, hm 15 7 (by omega) (by omega), bit_top _ (hB 15)]
  rw [← hc]
  obtain ⟨d, hd⟩ : ∃ d, d = leftL c := ⟨_, rfl⟩
  have hg : ∀ m, m < 128 → d.getD m 0 = if c.getD 128 0 = 1 ∧ (m = 0 ∨ m = 1 ∨ m = 2 ∨ m = 7) then 1 - c.getD m 0 else c.getD m 0 := fun m hm => by
    rw [hd, leftL, List.getD_eq_getElem?_getD, List.getElem?_take, if_pos hm, ← List.getD_eq_getElem?_getD]
    by_cases ht : c.getD 128 0 = 1
    · rw [if_pos ht]
      rw [getD_set _ 7 _ _ (by simp [hcl]), getD_set _ 2 _ _ (by simp [hcl]), getD_set _ 1 _ _ (by simp [hcl]), getD_set _ 0 _ _ (by simp [hcl])]
      by_cases h7 : 7 = m
      · subst h7; rw [if_pos rfl, if_pos ⟨ht, by omega⟩]
      · rw [if_neg h7]
        by_cases h2 : 2 = m
        · subst h2; rw [if_pos rfl, if_pos ⟨ht, by omega⟩]
        · rw [if_neg h2]
          by_cases h1 : 1 = m
          · subst h1; rw [if_pos rfl, if_pos ⟨ht, by omega⟩]
          · rw [if_neg h1]
            by_cases h0 : 0 = m
            · subst h0; rw [if_pos rfl, if_pos ⟨ht, by omega⟩]
            · rw [if_neg h0, if_neg (by omega)]
    · rw [if_neg ht, if_neg (fun h => ht h.1)]
  rw [← hd]
  unfold toldI dblL
  apply List.map_congr_left
  intro i hi
  have hi16 := List.mem_range.1 hi
  by_cases h : i = 0
  · subst h
    rw [if_pos rfl, hornI_8]
    simp only [Nat.mul_zero, Nat.zero_add]
    have m0 := hm 0 0 (by omega) (by omega)
    have m1 := hm 0 1 (by omega) (by omega)
    have m2 := hm 0 2 (by omega) (by omega)
    have m3 := hm 0 3 (by omega) (by omega)
    have m4 := hm 0 4 (by omega) (by omega)
    have m5 := hm 0 5 (by omega) (by omega)
    have m6 := hm 0 6 (by omega) (by omega)
    simp only [Nat.mul_zero, Nat.zero_add, Nat.reduceAdd] at m0 m1 m2 m3 m4 m5 m6
    have hA : dblA b 0 = b.getD 0 0 * 2 % 256 := by unfold dblA; simp
    rw [hA, hg 0 (by omega), hg 1 (by omega), hg 2 (by omega), hg 3 (by omega), hg 4 (by omega), hg 5 (by omega), hg 6 (by omega), hg 7 (by omega), h0, m0, m1, m2, m3, m4, m5, m6, h128]
    have h15 := hB 15
    rcases (show b.getD 15 0 / 128 = 0 ∨ b.getD 15 0 / 128 = 1 from by omega) with ht | ht
    · rw [ht]
      have := horn_shift 0 (by omega) _ (hB 0)
      simpa using this
    · rw [ht]
      have := horn_flip _ (hB 0)
      simpa using this
  · rw [if_neg h, hornI_8]
    have hn : ∀ j, 8 ≤ 8 * i + j → 8 * i + j < 128 → d.getD (8 * i + j) 0 = c.getD (8 * i + j) 0 := fun j h1 h2 => by rw [hg _ h2, if_neg (by omega)]
    rw [hn 0 (by omega) (by omega), hn 1 (by omega) (by omega), hn 2 (by omega) (by omega), hn 3 (by omega) (by omega), hn 4 (by omega) (by omega), hn 5 (by omega) (by omega), hn 6 (by omega) (by omega), hn 7 (by omega) (by omega)]
    have e0 : c.getD (8 * i + 0) 0 = bitI (b.getD (i - 1) 0) 7 := by
      rw [← hm (i - 1) 7 (by omega) (by omega)]; congr 1; omega
    rw [e0, bit_top _ (hB _)]
    have g : ∀ j, j < 7 → c.getD (8 * i + (j + 1)) 0 = bitI (b.getD i 0) j := fun j hj => by rw [← hm i j hi16 (by omega)]; rfl
    rw [g 0 (by omega), g 1 (by omega), g 2 (by omega), g 3 (by omega), g 4 (by omega), g 5 (by omega), g 6 (by omega)]
    have h1 := hB (i - 1)
    rw [horn_shift _ (by omega) _ (hB i)]
    unfold dblA
    rw [if_neg h]
end Nep
