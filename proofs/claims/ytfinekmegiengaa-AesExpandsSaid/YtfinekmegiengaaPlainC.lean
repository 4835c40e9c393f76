/- Plain laws of layers 1, 5 and 7: numbers of bytes, the field's product, AES as functions of lists of bytes; no program is in sight. -/
import Derived.Test.YtfinekmegiengaaPlainA
namespace Nep

/-! ### the field -/
def xt (a : Nat) : Nat := if 128 ≤ a then (a * 2 % 256) ^^^ 27 else a * 2 % 256
theorem xt_lt (a : Nat) : xt a < 256 := by
  unfold xt
  split
  · exact Nat.xor_lt_two_pow (n := 8) (by omega) (by omega)
  · omega
def fmulL : Nat → Nat → Nat → Nat → Nat
  | 0, _, _, o => o
  | n + 1, a, b, o => if b = 0 then o else fmulL n (xt a) (b / 2) (if b % 2 = 1 then o ^^^ a else o)
def fmul (a b : Nat) : Nat := fmulL 8 a b 0
theorem fmulL_lt : ∀ (n a b o : Nat), a < 256 → o < 256 → fmulL n a b o < 256
  | 0, _, _, _, _, ho => ho
  | n + 1, a, b, o, ha, ho => by
    unfold fmulL
    split
    · exact ho
    · refine fmulL_lt n _ _ _ (xt_lt a) ?_
      split
      · exact Nat.xor_lt_two_pow (n := 8) ho ha
      · exact ho
theorem fmul_lt (a b : Nat) (ha : a < 256) : fmul a b < 256 := fmulL_lt 8 a b 0 ha (by omega)
theorem fmulL_zero (n a o : Nat) : fmulL n a 0 o = o := by cases n <;> rfl
theorem fmulL_step (n a b o : Nat) (h : b ≠ 0) : fmulL (n + 1) a b o = fmulL n (xt a) (b / 2) (if b % 2 = 1 then o ^^^ a else o) := by
  conv => lhs; unfold fmulL
  rw [if_neg h]
/-- the product is the reference's for the numbers that AES multiplies by -/
theorem fmul_eq : ∀ c, c < 16 → ∀ b, b < 256 → fmul c b = rmul c b := by decide +kernel

def fpowL : Nat → Nat → Nat → Nat → Nat
  | 0, _, _, o => o
  | k + 1, a, n, o => if n = 0 then o else fpowL k (fmul a a) (n / 2) (if n % 2 = 1 then fmul o a else o)
def fpow (a n : Nat) : Nat := fpowL 8 a n 1
theorem fpowL_zero (k a o : Nat) : fpowL k a 0 o = o := by cases k <;> rfl
theorem fpowL_step (k a n o : Nat) (h : n ≠ 0) : fpowL (k + 1) a n o = fpowL k (fmul a a) (n / 2) (if n % 2 = 1 then fmul o a else o) := by
  conv => lhs; unfold fpowL
  rw [if_neg h]
theorem fpowL_lt : ∀ (k a n o : Nat), a < 256 → o < 256 → fpowL k a n o < 256
  | 0, _, _, _, _, ho => ho
  | k + 1, a, n, o, ha, ho => by
    unfold fpowL
    split
    · exact ho
    · refine fpowL_lt k _ _ _ (fmul_lt _ _ ha) ?_
      split
      · exact fmul_lt _ _ ho
      · exact ho
theorem fpow_two : ∀ n, n < 7 → fpow 2 n = pw n := by decide +kernel
def rpow (a : Nat) : Nat → Nat
  | 0 => 1
  | n + 1 => rmul (rpow a n) a
theorem rpow_two : ∀ n, n < 7 → rpow 2 n = pw n := by decide +kernel

/-! ### numbers of bytes -/
def numF (n : Nat) : List Nat → Nat
  | [] => n
  | x :: l => numF (n * 256 + x) l
def num (l : List Nat) : Nat := numF 0 l
def big (n k : Nat) : List Nat := (List.range k).map fun i => n / 256 ^ (k - 1 - i) % 256
theorem big_length (n k : Nat) : (big n k).length = k := by simp [big]
theorem big_bytes (n k : Nat) : ∀ x ∈ big n k, x < 256 := by
  intro x hx
  simp only [big, List.mem_map] at hx
  obtain ⟨i, _, rfl⟩ := hx
  omega
theorem numF_append (n : Nat) (a b : List Nat) : numF n (a ++ b) = numF (numF n a) b := by
  induction a generalizing n with
  | nil => rfl
  | cons x a ih => exact ih _
theorem numF_lt (l : List Nat) : ∀ n m, (∀ x ∈ l, x < 256) → n < m → numF n l < m * 256 ^ l.length := by
  induction l with
  | nil => intro n m _ h; simpa [numF] using h
  | cons x l ih =>
    intro n m hb h
    have := ih (n * 256 + x) (m * 256) (fun y hy => hb y (by simp [hy])) (by have := hb x (by simp); omega)
    rw [List.length_cons, Nat.pow_succ]
    simp only [numF]
    rw [Nat.mul_assoc] at this
    rwa [Nat.mul_comm (256 ^ l.length) 256]
theorem num_lt (l : List Nat) (hb : ∀ x ∈ l, x < 256) : num l < 256 ^ l.length := by
  have := numF_lt l 0 1 hb (by omega)
  unfold num
  omega
theorem num4 (a b c d : Nat) : num [a, b, c, d] = a * 16777216 + b * 65536 + c * 256 + d := by
  simp only [num, numF]
  omega
theorem big4 (a b c d : Nat) (ha : a < 256) (hb : b < 256) (hc : c < 256) (hd : d < 256) : big (num [a, b, c, d]) 4 = [a, b, c, d] := by
  rw [num4]
  simp only [big, show List.range 4 = [0, 1, 2, 3] from rfl, List.map_cons, List.map_nil, Nat.reduceSub, Nat.reducePow]
  simp only [List.cons.injEq, and_true]
  omega
theorem four {l : List Nat} (h : l.length = 4) : ∃ a b c d, l = [a, b, c, d] := by
  match l, h with
  | [a, b, c, d], _ => exact ⟨a, b, c, d, rfl⟩

/-! ### lists of bytes -/
def xorL (a b : List Nat) : List Nat := List.zipWith (· ^^^ ·) a b
theorem xorL_length (a b : List Nat) (h : a.length = b.length) : (xorL a b).length = a.length := by simp [xorL]; omega
theorem xorL_bytes {a b : List Nat} (ha : ∀ x ∈ a, x < 256) (hb : ∀ x ∈ b, x < 256) : ∀ x ∈ xorL a b, x < 256 := by
  intro x hx
  unfold xorL at hx
  obtain ⟨i, hi, rfl⟩ := List.getElem_of_mem hx
  simp only [List.length_zipWith] at hi
  rw [List.getElem_zipWith]
  exact Nat.xor_lt_two_pow (n := 8) (ha _ (List.getElem_mem _)) (hb _ (List.getElem_mem _))
theorem xorL_get (a b : List Nat) (i : Nat) (ha : i < a.length) (hb : i < b.length) : (xorL a b).getD i 0 = a.getD i 0 ^^^ b.getD i 0 := by
  simp [xorL, List.getElem?_eq_getElem ha, List.getElem?_eq_getElem hb, List.getElem?_zipWith]

/-- the rows of a block, shifted by so many -/
def shL (b : List Nat) (by_ : Nat) : List Nat := (List.range 16).map fun i => b.getD (4 * ((i / 4 + by_ * (i % 4)) % 4) + i % 4) 0
theorem shL_length (b : List Nat) (n : Nat) : (shL b n).length = 16 := by simp [shL]
/-- a column, mixed by four numbers: its i-th byte, of the first k products -/
def mixA (m c : List Nat) (i : Nat) : Nat → Nat
  | 0 => 0
  | k + 1 => mixA m c i k ^^^ rmul (m.getD k 0) (c.getD ((i + k) % 4) 0)
theorem mixA_lt (m c : List Nat) (i k : Nat) : mixA m c i k < 256 := by
  induction k with
  | zero => simp [mixA]
  | succ k ih => exact Nat.xor_lt_two_pow (n := 8) ih (rmul_lt _ _)
def mixC (m c : List Nat) : List Nat := (List.range 4).map fun i => mixA m c i 4
theorem mixC_length (m c : List Nat) : (mixC m c).length = 4 := by simp [mixC]
theorem mixC_bytes (m c : List Nat) : ∀ x ∈ mixC m c, x < 256 := by
  intro x hx
  simp only [mixC, List.mem_map] at hx
  obtain ⟨i, _, rfl⟩ := hx
  exact mixA_lt _ _ _ _
/-- the first n columns, mixed -/
def mixN (m b : List Nat) : Nat → List Nat
  | 0 => []
  | n + 1 => mixN m b n ++ mixC m ((b.drop (4 * n)).take 4)
def mixL (m b : List Nat) : List Nat := mixN m b 4
theorem mixN_length (m b : List Nat) (n : Nat) : (mixN m b n).length = 4 * n := by
  induction n with
  | zero => rfl
  | succ n ih => simp [mixN, ih, mixC_length]; omega
theorem mixN_bytes (m b : List Nat) (n : Nat) : ∀ x ∈ mixN m b n, x < 256 := by
  induction n with
  | zero => simp [mixN]
  | succ n ih =>
    intro x hx
    simp only [mixN, List.mem_append] at hx
    exact hx.elim (ih x) (mixC_bytes _ _ x)

/-! ### the keys -/
/-- what the word ahead is made of -/
def gW (i : Nat) (x : List Nat) : List Nat :=
  if i % 8 = 0 then [sb (x.getD 1 0) ^^^ pw (i / 8 - 1), sb (x.getD 2 0), sb (x.getD 3 0), sb (x.getD 0 0)]
  else if i % 8 = 4 then x.map sb else x
def nextW (key : List Nat) (w : List (List Nat)) (i : Nat) : List Nat :=
  if i < 8 then (key.drop (4 * i)).take 4 else xorL (w.getD (i - 8) []) (gW i (w.getD (i - 1) []))
/-- the first n words -/
def expL (key : List Nat) : Nat → List (List Nat)
  | 0 => []
  | n + 1 => expL key n ++ [nextW key (expL key n) n]
theorem expL_length (key : List Nat) (n : Nat) : (expL key n).length = n := by
  induction n with
  | zero => rfl
  | succ n ih => simp [expL, ih]
/-- four bytes -/
def Word4 (x : List Nat) : Prop := x.length = 4 ∧ ∀ y ∈ x, y < 256
theorem gW_word {i : Nat} {x : List Nat} (h : Word4 x) (hi : i < 60) : Word4 (gW i x) := by
  obtain ⟨a, b, c, d, rfl⟩ := four h.1
  have hp : pw (i / 8 - 1) ≤ pw 6 := pw_le _ _ (by omega)
  have hp6 : pw 6 = 64 := by decide
  unfold gW
  split
  · refine ⟨rfl, fun y hy => ?_⟩
    simp only [List.mem_cons, List.not_mem_nil, or_false] at hy
    rcases hy with rfl | rfl | rfl | rfl
    · exact Nat.xor_lt_two_pow (n := 8) (sb_lt _) (by omega)
    all_goals exact sb_lt _
  · split
    · refine ⟨rfl, fun y hy => ?_⟩
      obtain ⟨z, _, rfl⟩ := List.mem_map.1 hy
      exact sb_lt _
    · exact h
theorem Word4.xor {a b : List Nat} (ha : Word4 a) (hb : Word4 b) : Word4 (xorL a b) :=
  ⟨by rw [xorL_length _ _ (by rw [ha.1, hb.1]), ha.1], xorL_bytes ha.2 hb.2⟩
theorem expL_word (key : List Nat) (hk : key.length = 32) (hb : ∀ x ∈ key, x < 256) (n : Nat) (hn : n ≤ 60) : ∀ x ∈ expL key n, Word4 x := by
  induction n with
  | zero => simp [expL]
  | succ n ih =>
    intro x hx
    simp only [expL, List.mem_append, List.mem_singleton] at hx
    rcases hx with hx | rfl
    · exact ih (by omega) x hx
    · unfold nextW
      have get : ∀ i, i < n → Word4 ((expL key n).getD i []) := fun i hi => by
        have hl : i < (expL key n).length := by rw [expL_length]; exact hi
        rw [List.getD_eq_getElem?_getD, List.getElem?_eq_getElem hl]
        exact ih (by omega) _ (List.getElem_mem hl)
      split
      · refine ⟨by rw [List.length_take, List.length_drop]; omega, fun y hy => hb y (List.mem_of_mem_drop (List.mem_of_mem_take hy))⟩
      · exact (get _ (by omega)).xor (gW_word (get _ (by omega)) (by omega))
theorem expL_get (key : List Nat) (n m : Nat) (h : n < m) : (expL key m).getD n [] = nextW key (expL key n) n := by
  induction m with
  | zero => omega
  | succ m ih =>
    rw [List.getD_eq_getElem?_getD]
    simp only [expL]
    by_cases h2 : n < m
    · rw [List.getElem?_append_left (by rw [expL_length]; exact h2), ← List.getD_eq_getElem?_getD]
      exact ih h2
    · obtain rfl : n = m := by omega
      rw [List.getElem?_append_right (by rw [expL_length]; omega), expL_length]
      simp

/-- a round's key -/
def rkL (w : List (List Nat)) (r : Nat) : List Nat := ((w.drop (4 * r)).take 4).flatten
/-- a block behind r rounds -/
def encR (w : List (List Nat)) (b : List Nat) : Nat → List Nat
  | 0 => xorL b (rkL w 0)
  | r + 1 => xorL (if r + 1 < 14 then mixL [2, 3, 1, 1] (shL ((encR w b r).map sb) 1) else shL ((encR w b r).map sb) 1) (rkL w (r + 1))
def encL (key b : List Nat) : List Nat := encR (expL key 60) b 14
/-- a block behind the first j steps back -/
def decR (w : List (List Nat)) (b : List Nat) : Nat → List Nat
  | 0 => b
  | j + 1 => (shL (if 0 < j then mixL [14, 11, 13, 9] (xorL (decR w b j) (rkL w (14 - j))) else xorL (decR w b j) (rkL w (14 - j))) 3).map bk
def decL (key b : List Nat) : List Nat := xorL (decR (expL key 60) b 14) (rkL (expL key 60) 0)

#print axioms fmul_eq
end Nep
