/- Plain laws of layers 1, 5 and 7: numbers of bytes, the field, AES, and that decrypting undoes encrypting. -/
import Derived.Test.YtfinekmegiengaaPlainA
/- Plain laws of layers 1, 5 and 7: numbers of bytes, the field's product, AES as functions of lists of bytes; no program is in sight. -/
namespace Nep

/-! ### the field -/
def xt (a : Nat) : Nat := if 128 ≤ a then (a * 2 % 256) ^^^ 27 else a * 2 % 256
theorem xt_lt (a : Nat) : xt a < 256 := by
  unfold xt
  split
  · exact Nat.xor_lt_two_pow (n := 8) (by omega) (by omega)
  · omega
def fmulL : Nat → Nat → Nat → Nat → Nat
  | 0, _, _, o => o
  | n + 1, a, b, o => if b = 0 then o else fmulL n (xt a) (b / 2) (if b % 2 = 1 then o ^^^ a else o)
def fmul (a b : Nat) : Nat := fmulL 8 a b 0
theorem fmulL_lt : ∀ (n a b o : Nat), a < 256 → o < 256 → fmulL n a b o < 256
  | 0, _, _, _, _, ho => ho
  | n + 1, a, b, o, ha, ho => by
    unfold fmulL
    split
    · exact ho
    · refine fmulL_lt n _ _ _ (xt_lt a) ?_
      split
      · exact Nat.xor_lt_two_pow (n := 8) ho ha
      · exact ho
theorem fmul_lt (a b : Nat) (ha : a < 256) : fmul a b < 256 := fmulL_lt 8 a b 0 ha (by omega)
theorem fmulL_zero (n a o : Nat) : fmulL n a 0 o = o := by cases n <;> rfl
theorem fmulL_step (n a b o : Nat) (h : b ≠ 0) : fmulL (n + 1) a b o = fmulL n (xt a) (b / 2) (if b % 2 = 1 then o ^^^ a else o) := by
  conv => lhs; unfold fmulL
  rw [if_neg h]
/-- the product is the reference's for the numbers that AES multiplies by -/
theorem fmul_eq : ∀ c, c < 16 → ∀ b, b < 256 → fmul c b = rmul c b := by decide +kernel

def fpowL : Nat → Nat → Nat → Nat → Nat
  | 0, _, _, o => o
  | k + 1, a, n, o => if n = 0 then o else fpowL k (fmul a a) (n / 2) (if n % 2 = 1 then fmul o a else o)
def fpow (a n : Nat) : Nat := fpowL 8 a n 1
theorem fpowL_zero (k a o : Nat) : fpowL k a 0 o = o := by cases k <;> rfl
theorem fpowL_step (k a n o : Nat) (h : n ≠ 0) : fpowL (k + 1) a n o = fpowL k (fmul a a) (n / 2) (if n % 2 = 1 then fmul o a else o) := by
  conv => lhs; unfold fpowL
  rw [if_neg h]
theorem fpowL_lt : ∀ (k a n o : Nat), a < 256 → o < 256 → fpowL k a n o < 256
  | 0, _, _, _, _, ho => ho
  | k + 1, a, n, o, ha, ho => by
    unfold fpowL
    split
    · exact ho
    · refine fpowL_lt k _ _ _ (fmul_lt _ _ ha) ?_
      split
      · exact fmul_lt _ _ ho
      · exact ho
theorem fpow_two : ∀ n, n < 7 → fpow 2 n = pw n := by decide +kernel
def rpow (a : Nat) : Nat → Nat
  | 0 => 1
  | n + 1 => rmul (rpow a n) a
theorem rpow_two : ∀ n, n < 7 → rpow 2 n = pw n := by decide +kernel

/-! ### numbers of bytes -/
def numF (n : Nat) : List Nat → Nat
  | [] => n
  | x :: l => numF (n * 256 + x) l
def num (l : List Nat) : Nat := numF 0 l
def big (n k : Nat) : List Nat := (List.range k).map fun i => n / 256 ^ (k - 1 - i) % 256
theorem big_length (n k : Nat) : (big n k).length = k := by simp [big]
theorem big_bytes (n k : Nat) : ∀ x ∈ big n k, x < 256 := by
  intro x hx
  simp only [big, List.mem_map] at hx
  obtain ⟨i, _, rfl⟩ := hx
  omega
theorem numF_append (n : Nat) (a b : List Nat) : numF n (a ++ b) = numF (numF n a) b := by
  induction a generalizing n with
  | nil => rfl
  | cons x a ih => exact ih _
theorem numF_lt (l : List Nat) : ∀ n m, (∀ x ∈ l, x < 256) → n < m → numF n l < m * 256 ^ l.length := by
  induction l with
  | nil => intro n m _ h; simpa [numF] using h
  | cons x l ih =>
    intro n m hb h
    have := ih (n * 256 + x) (m * 256) (fun y hy => hb y (by simp [hy])) (by have := hb x (by simp); omega)
    rw [List.length_cons, Nat.pow_succ]
    simp only [numF]
    rw [Nat.mul_assoc] at this
    rwa [Nat.mul_comm (256 ^ l.length) 256]
theorem num_lt (l : List Nat) (hb : ∀ x ∈ l, x < 256) : num l < 256 ^ l.length := by
  have := numF_lt l 0 1 hb (by omega)
  unfold num
  omega
theorem num4 (a b c d : Nat) : num [a, b, c, d] = a * 16777216 + b * 65536 + c * 256 + d := by
  simp only [num, numF]
  omega
theorem big4 (a b c d : Nat) (ha : a < 256) (hb : b < 256) (hc : c < 256) (hd : d < 256) : big (num [a, b, c, d]) 4 = [a, b, c, d] := by
  rw [num4]
  simp only [big, show List.range 4 = [0, 1, 2, 3] from rfl, List.map_cons, List.map_nil, Nat.reduceSub, Nat.reducePow]
  simp only [List.cons.injEq, and_true]
  omega
theorem four {l : List Nat} (h : l.length = 4) : ∃ a b c d, l = [a, b, c, d] := by
  match l, h with
  | [a, b, c, d], _ => exact ⟨a, b, c, d, rfl⟩

/-! ### lists of bytes -/
def xorL (a b : List Nat) : List Nat := List.zipWith (· ^^^ ·) a b
theorem xorL_length (a b : List Nat) (h : a.length = b.length) : (xorL a b).length = a.length := by simp [xorL]; omega
theorem xorL_bytes {a b : List Nat} (ha : ∀ x ∈ a, x < 256) (hb : ∀ x ∈ b, x < 256) : ∀ x ∈ xorL a b, x < 256 := by
  intro x hx
  unfold xorL at hx
  obtain ⟨i, hi, rfl⟩ := List.getElem_of_mem hx
  simp only [List.length_zipWith] at hi
  rw [List.getElem_zipWith]
  exact Nat.xor_lt_two_pow (n := 8) (ha _ (List.getElem_mem _)) (hb _ (List.getElem_mem _))
theorem xorL_get (a b : List Nat) (i : Nat) (ha : i < a.length) (hb : i < b.length) : (xorL a b).getD i 0 = a.getD i 0 ^^^ b.getD i 0 := by
  simp [xorL, List.getElem?_eq_getElem ha, List.getElem?_eq_getElem hb, List.getElem?_zipWith]

/-- the rows of a block, shifted by so many -/
def shL (b : List Nat) (by_ : Nat) : List Nat := (List.range 16).map fun i => b.getD (4 * ((i / 4 + by_ * (i % 4)) % 4) + i % 4) 0
theorem shL_length (b : List Nat) (n : Nat) : (shL b n).length = 16 := by simp [shL]
/-- a column, mixed by four numbers: its i-th byte, of the first k products -/
def mixA (m c : List Nat) (i : Nat) : Nat → Nat
  | 0 => 0
  | k + 1 => mixA m c i k ^^^ rmul (m.getD k 0) (c.getD ((i + k) % 4) 0)
theorem mixA_lt (m c : List Nat) (i k : Nat) : mixA m c i k < 256 := by
  induction k with
  | zero => simp [mixA]
  | succ k ih => exact Nat.xor_lt_two_pow (n := 8) ih (rmul_lt _ _)
def mixC (m c : List Nat) : List Nat := (List.range 4).map fun i => mixA m c i 4
theorem mixC_length (m c : List Nat) : (mixC m c).length = 4 := by simp [mixC]
theorem mixC_bytes (m c : List Nat) : ∀ x ∈ mixC m c, x < 256 := by
  intro x hx
  simp only [mixC, List.mem_map] at hx
  obtain ⟨i, _, rfl⟩ := hx
  exact mixA_lt _ _ _ _
/-- the first n columns, mixed -/
def mixN (m b : List Nat) : Nat → List Nat
  | 0 => []
  | n + 1 => mixN m b n ++ mixC m ((b.drop (4 * n)).take 4)
def mixL (m b : List Nat) : List Nat := mixN m b 4
theorem mixN_length (m b : List Nat) (n : Nat) : (mixN m b n).length = 4 * n := by
  induction n with
  | zero => rfl
  | succ n ih => simp [mixN, ih, mixC_length]; omega
theorem mixN_bytes (m b : List Nat) (n : Nat) : ∀ x ∈ mixN m b n, x < 256 := by
  induction n with
  | zero => simp [mixN]
  | succ n ih =>
    intro x hx
    simp only [mixN, List.mem_append] at hx
    exact hx.elim (ih x) (mixC_bytes _ _ x)

/-! ### the keys -/
/-- what the word ahead is made of -/
def gW (i : Nat) (x : List Nat) : List Nat :=
  if i % 8 = 0 then [sb (x.getD 1 0) ^^^ pw (i / 8 - 1), sb (x.getD 2 0), sb (x.getD 3 0), sb (x.getD 0 0)]
  else if i % 8 = 4 then x.map sb else x
def nextW (key : List Nat) (w : List (List Nat)) (i : Nat) : List Nat :=
  if i < 8 then (key.drop (4 * i)).take 4 else xorL (w.getD (i - 8) []) (gW i (w.getD (i - 1) []))
/-- the first n words -/
def expL (key : List Nat) : Nat → List (List Nat)
  | 0 => []
  | n + 1 => expL key n ++ [nextW key (expL key n) n]
theorem expL_length (key : List Nat) (n : Nat) : (expL key n).length = n := by
  induction n with
  | zero => rfl
  | succ n ih => simp [expL, ih]
/-- four bytes -/
def Word4 (x : List Nat) : Prop := x.length = 4 ∧ ∀ y ∈ x, y < 256
theorem gW_word {i : Nat} {x : List Nat} (h : Word4 x) (hi : i < 60) : Word4 (gW i x) := by
  obtain ⟨a, b, c, d, rfl⟩ := four h.1
  have hp : pw (i / 8 - 1) ≤ pw 6 := pw_le _ _ (by omega)
  have hp6 : pw 6 = 64 := by decide
  unfold gW
  split
  · refine ⟨rfl, fun y hy => ?_⟩
    simp only [List.mem_cons, List.not_mem_nil, or_false] at hy
    rcases hy with rfl | rfl | rfl | rfl
    · exact Nat.xor_lt_two_pow (n := 8) (sb_lt _) (by omega)
    all_goals exact sb_lt _
  · split
    · refine ⟨rfl, fun y hy => ?_⟩
      obtain ⟨z, _, rfl⟩ := List.mem_map.1 hy
      exact sb_lt _
    · exact h
theorem Word4.xor {a b : List Nat} (ha : Word4 a) (hb : Word4 b) : Word4 (xorL a b) :=
  ⟨by rw [xorL_length _ _ (by rw [ha.1, hb.1]), ha.1], xorL_bytes ha.2 hb.2⟩
theorem expL_word (key : List Nat) (hk : key.length = 32) (hb : ∀ x ∈ key, x < 256) (n : Nat) (hn : n ≤ 60) : ∀ x ∈ expL key n, Word4 x := by
  induction n with
  | zero => simp [expL]
  | succ n ih =>
    intro x hx
    simp only [expL, List.mem_append, List.mem_singleton] at hx
    rcases hx with hx | rfl
    · exact ih (by omega) x hx
    · unfold nextW
      have get : ∀ i, i < n → Word4 ((expL key n).getD i []) := fun i hi => by
        have hl : i < (expL key n).length := by rw [expL_length]; exact hi
        rw [List.getD_eq_getElem?_getD, List.getElem?_eq_getElem hl]
        exact ih (by omega) _ (List.getElem_mem hl)
      split
      · refine ⟨by rw [List.length_take, List.length_drop]; omega, fun y hy => hb y (List.mem_of_mem_drop (List.mem_of_mem_take hy))⟩
      · exact (get _ (by omega)).xor (gW_word (get _ (by omega)) (by omega))
theorem expL_get (key : List Nat) (n m : Nat) (h : n < m) : (expL key m).getD n [] = nextW key (expL key n) n := by
  induction m with
  | zero => omega
  | succ m ih =>
    rw [List.getD_eq_getElem?_getD]
    simp only [expL]
    by_cases h2 : n < m
    · rw [List.getElem?_append_left (by rw [expL_length]; exact h2), ← List.getD_eq_getElem?_getD]
      exact ih h2
    · obtain rfl : n = m := by omega
      rw [List.getElem?_append_right (by rw [expL_length]; omega), expL_length]
      simp

/-- a round's key -/
def rkL (w : List (List Nat)) (r : Nat) : List Nat := ((w.drop (4 * r)).take 4).flatten
/-- a block behind r rounds -/
def encR (w : List (List Nat)) (b : List Nat) : Nat → List Nat
  | 0 => xorL b (rkL w 0)
  | r + 1 => xorL (if r + 1 < 14 then mixL [2, 3, 1, 1] (shL ((encR w b r).map sb) 1) else shL ((encR w b r).map sb) 1) (rkL w (r + 1))
def encL (key b : List Nat) : List Nat := encR (expL key 60) b 14
/-- a block behind the first j steps back -/
def decR (w : List (List Nat)) (b : List Nat) : Nat → List Nat
  | 0 => b
  | j + 1 => (shL (if 0 < j then mixL [14, 11, 13, 9] (xorL (decR w b j) (rkL w (14 - j))) else xorL (decR w b j) (rkL w (14 - j))) 3).map bk
def decL (key b : List Nat) : List Nat := xorL (decR (expL key 60) b 14) (rkL (expL key 60) 0)

#print axioms fmul_eq
end Nep
/- Plain laws of layer 7: words as numbers. -/
namespace Nep
theorem xor_join (x y u v : Nat) (hy : y < 256) (hv : v < 256) : (x * 256 + y) ^^^ (u * 256 + v) = (x ^^^ u) * 256 + (y ^^^ v) := by
  have h1 : ((x * 256 + y) ^^^ (u * 256 + v)) / 2 ^ 8 = (x ^^^ u) := by
    rw [Nat.xor_div_two_pow]
    congr 1 <;> omega
  have h2 : ((x * 256 + y) ^^^ (u * 256 + v)) % 2 ^ 8 = (y ^^^ v) := by
    rw [Nat.xor_mod_two_pow]
    congr 1 <;> omega
  omega
theorem numF_xor : ∀ (a b : List Nat) (n m : Nat), a.length = b.length → (∀ x ∈ a, x < 256) → (∀ x ∈ b, x < 256) → numF (n ^^^ m) (xorL a b) = numF n a ^^^ numF m b
  | [], [], n, m, _, _, _ => rfl
  | x :: a, y :: b, n, m, h, ha, hb => by
    have ih := numF_xor a b (n * 256 + x) (m * 256 + y) (by simpa using h) (fun z hz => ha z (by simp [hz])) (fun z hz => hb z (by simp [hz]))
    simp only [xorL, List.zipWith_cons_cons, numF] at ih ⊢
    rw [← ih, xor_join _ _ _ _ (ha x (by simp)) (hb y (by simp))]
theorem num_xor {a b : List Nat} (h : a.length = b.length) (ha : ∀ x ∈ a, x < 256) (hb : ∀ x ∈ b, x < 256) : num (xorL a b) = num a ^^^ num b := numF_xor a b 0 0 h ha hb

/-- a word's bytes put for -/
def wordN (x : Nat) : Nat := sb (x / 16777216) * 16777216 + sb (x / 65536 % 256) * 65536 + sb (x / 256 % 256) * 256 + sb (x % 256)
def rotN (x : Nat) : Nat := x % 16777216 * 256 + x / 16777216
theorem wordN_num {a b c d : Nat} (hb : b < 256) (hc : c < 256) (hd : d < 256) : wordN (num [a, b, c, d]) = num [sb a, sb b, sb c, sb d] := by
  rw [num4, num4]
  unfold wordN
  rw [show (a * 16777216 + b * 65536 + c * 256 + d) / 16777216 = a from by omega, show (a * 16777216 + b * 65536 + c * 256 + d) / 65536 % 256 = b from by omega,
    show (a * 16777216 + b * 65536 + c * 256 + d) / 256 % 256 = c from by omega, show (a * 16777216 + b * 65536 + c * 256 + d) % 256 = d from by omega]
theorem rotN_num {a b c d : Nat} (hb : b < 256) (hc : c < 256) (hd : d < 256) : rotN (num [a, b, c, d]) = num [b, c, d, a] := by
  rw [num4, num4]
  unfold rotN
  omega
theorem num_first {a b c d r : Nat} (ha : a < 256) (hb : b < 256) (hc : c < 256) (hd : d < 256) (hr : r < 256) : num [a ^^^ r, b, c, d] = num [a, b, c, d] ^^^ (r * 16777216) := by
  have h : xorL [a, b, c, d] [r, 0, 0, 0] = [a ^^^ r, b, c, d] := by simp [xorL]
  have h2 : num [r, 0, 0, 0] = r * 16777216 := by rw [num4]; omega
  rw [← h, num_xor (a := [a, b, c, d]) (b := [r, 0, 0, 0]) rfl (by simp; omega) (by simp; omega), h2]

/-- what the word ahead is made of, as a number -/
def gN (i x : Nat) : Nat := if i % 8 = 0 then wordN (rotN x) ^^^ (pw (i / 8 - 1) * 16777216) else if i % 8 = 4 then wordN x else x
theorem num_gW {i : Nat} {x : List Nat} (h : Word4 x) (hi : i < 60) : num (gW i x) = gN i (num x) := by
  obtain ⟨a, b, c, d, rfl⟩ := four h.1
  have ha := h.2 a (by simp)
  have hb := h.2 b (by simp)
  have hc := h.2 c (by simp)
  have hd := h.2 d (by simp)
  have hp : pw (i / 8 - 1) ≤ pw 6 := pw_le _ _ (by omega)
  have hp6 : pw 6 = 64 := by decide
  unfold gW gN
  split
  · rw [rotN_num hb hc hd, wordN_num hc hd ha, ← num_first (sb_lt _) (sb_lt _) (sb_lt _) (sb_lt _) (by omega)]
    rfl
  · split
    · rw [wordN_num hb hc hd]
      rfl
    · rfl

/-- the words as numbers -/
def wsL (key : List Nat) : List Nat := (expL key 60).map num
theorem wsL_length (key : List Nat) : (wsL key).length = 60 := by simp [wsL, expL_length]
theorem Word4.num_lt {x : List Nat} (h : Word4 x) : num x < 4294967296 := by
  have := Nep.num_lt x h.2
  rw [h.1] at this
  omega
theorem expL_at (key : List Nat) (hk : key.length = 32) (hb : ∀ x ∈ key, x < 256) (i : Nat) (hi : i < 60) : Word4 ((expL key 60).getD i []) := by
  have hl : i < (expL key 60).length := by rw [expL_length]; exact hi
  rw [List.getD_eq_getElem?_getD, List.getElem?_eq_getElem hl]
  exact expL_word key hk hb 60 (by omega) _ (List.getElem_mem hl)
theorem wsL_get (key : List Nat) (i : Nat) (hi : i < 60) : (wsL key).getD i 0 = num ((expL key 60).getD i []) := by
  have hl : i < (expL key 60).length := by rw [expL_length]; exact hi
  simp [wsL, List.getElem?_eq_getElem hl]
theorem wsL_lt (key : List Nat) (hk : key.length = 32) (hb : ∀ x ∈ key, x < 256) (i : Nat) : (wsL key).getD i 0 < 4294967296 := by
  by_cases hi : i < 60
  · rw [wsL_get key i hi]
    exact (expL_at key hk hb i hi).num_lt
  · have : (wsL key)[i]? = none := List.getElem?_eq_none (by rw [wsL_length]; omega)
    simp [this]
theorem wsL_low (key : List Nat) (i : Nat) (hi : i < 8) : (wsL key).getD i 0 = num ((key.drop (4 * i)).take 4) := by
  rw [wsL_get key i (by omega), expL_get key i 60 (by omega)]
  unfold nextW
  rw [if_pos hi]
theorem wsL_high (key : List Nat) (hk : key.length = 32) (hb : ∀ x ∈ key, x < 256) (i : Nat) (h8 : 8 ≤ i) (hi : i < 60) : (wsL key).getD i 0 = (wsL key).getD (i - 8) 0 ^^^ gN i ((wsL key).getD (i - 1) 0) := by
  have g1 := expL_at key hk hb (i - 1) (by omega)
  have g8 := expL_at key hk hb (i - 8) (by omega)
  have gg := gW_word g1 hi
  rw [wsL_get key i hi, wsL_get key (i - 8) (by omega), wsL_get key (i - 1) (by omega), expL_get key i 60 hi]
  unfold nextW
  rw [if_neg (by omega), expL_get key (i - 8) i (by omega), expL_get key (i - 1) i (by omega), ← num_gW g1 hi, expL_get key (i - 1) 60 (by omega), expL_get key (i - 8) 60 (by omega)] at *
  exact num_xor (by rw [g8.1, gg.1]) g8.2 gg.2
end Nep
/- Plain laws of layer 7: words, one behind the other. -/
namespace Nep
/-- all rounds' keys, one behind the other -/
def flatL (key : List Nat) : List Nat := (expL key 60).flatten
theorem flatten_take (W : List (List Nat)) (hW : ∀ x ∈ W, x.length = 4) : ∀ n, (W.flatten).take (4 * n) = (W.take n).flatten := by
  induction W with
  | nil => intro n; simp
  | cons x W ih =>
    intro n
    cases n with
    | zero => simp
    | succ n =>
      have hx := hW x (by simp)
      rw [List.flatten_cons, List.take_succ_cons, List.flatten_cons, List.take_append, show 4 * (n + 1) - x.length = 4 * n from by omega, ih (fun y hy => hW y (by simp [hy])) n, List.take_of_length_le (by omega)]
theorem flatten_drop (W : List (List Nat)) (hW : ∀ x ∈ W, x.length = 4) : ∀ n, (W.flatten).drop (4 * n) = (W.drop n).flatten := by
  induction W with
  | nil => intro n; simp
  | cons x W ih =>
    intro n
    cases n with
    | zero => simp
    | succ n =>
      have hx := hW x (by simp)
      rw [List.flatten_cons, List.drop_succ_cons, List.drop_append, show 4 * (n + 1) - x.length = 4 * n from by omega, ih (fun y hy => hW y (by simp [hy])) n, List.drop_eq_nil_of_le (by omega), List.nil_append]
theorem flatten_length (W : List (List Nat)) (hW : ∀ x ∈ W, x.length = 4) : W.flatten.length = 4 * W.length := by
  induction W with
  | nil => rfl
  | cons x W ih =>
    have hx := hW x (by simp)
    simp [ih (fun y hy => hW y (by simp [hy])), hx]
    omega
theorem exp4 (key : List Nat) (hk : key.length = 32) (hb : ∀ x ∈ key, x < 256) : ∀ x ∈ expL key 60, x.length = 4 := fun x hx => (expL_word key hk hb 60 (by omega) x hx).1
theorem flatL_length (key : List Nat) (hk : key.length = 32) (hb : ∀ x ∈ key, x < 256) : (flatL key).length = 240 := by
  unfold flatL
  rw [flatten_length _ (exp4 key hk hb), expL_length]
theorem flatL_bytes (key : List Nat) (hk : key.length = 32) (hb : ∀ x ∈ key, x < 256) : ∀ x ∈ flatL key, x < 256 := by
  intro x hx
  obtain ⟨y, hy, hx⟩ := List.mem_flatten.1 hx
  exact (expL_word key hk hb 60 (by omega) y hy).2 x hx
/-- a round's key out of them -/
theorem rkL_flat (key : List Nat) (hk : key.length = 32) (hb : ∀ x ∈ key, x < 256) (r : Nat) : rkL (expL key 60) r = ((flatL key).drop (16 * r)).take 16 := by
  have h4 := exp4 key hk hb
  unfold rkL flatL
  rw [show 16 * r = 4 * (4 * r) from by omega, flatten_drop _ h4, show (16 : Nat) = 4 * 4 from rfl, flatten_take _ (fun x hx => h4 x (List.mem_of_mem_drop hx))]
theorem flatten_step (W : List (List Nat)) (h4 : ∀ x ∈ W, x.length = 4) (a j : Nat) (hj : a + j < W.length) :
    (W.flatten.drop (4 * a)).take (4 * (j + 1)) = (W.flatten.drop (4 * a)).take (4 * j) ++ W.getD (a + j) [] := by
  have h4' : ∀ x ∈ W.drop a, x.length = 4 := fun x hx => h4 x (List.mem_of_mem_drop hx)
  rw [flatten_drop _ h4, flatten_take _ h4', flatten_take _ h4']
  have hl : j < (W.drop a).length := by rw [List.length_drop]; omega
  rw [List.take_succ_eq_append_getElem hl, List.flatten_append]
  congr 1
  simp [List.getElem?_eq_getElem hj]
theorem flat_step (key : List Nat) (hk : key.length = 32) (hb : ∀ x ∈ key, x < 256) (r j : Nat) (hj : 4 * r + j < 60) :
    ((flatL key).drop (16 * r)).take (4 * (j + 1)) = ((flatL key).drop (16 * r)).take (4 * j) ++ (expL key 60).getD (4 * r + j) [] := by
  have h := flatten_step (expL key 60) (exp4 key hk hb) (4 * r) j (by rw [expL_length]; exact hj)
  rw [show 4 * (4 * r) = 16 * r from by omega] at h
  exact h
theorem big_num {x : List Nat} (h : Word4 x) : big (num x) 4 = x := by
  obtain ⟨a, b, c, d, rfl⟩ := four h.1
  exact big4 a b c d (h.2 a (by simp)) (h.2 b (by simp)) (h.2 c (by simp)) (h.2 d (by simp))
theorem flat_take_step (key : List Nat) (r : Nat) : (flatL key).take (16 * (r + 1)) = (flatL key).take (16 * r) ++ ((flatL key).drop (16 * r)).take 16 := by
  rw [show 16 * (r + 1) = 16 * r + 16 from by omega, List.take_add]
end Nep
/- Plain laws of layer 7: a column on its way to being mixed. -/
namespace Nep
/-- a column: its first i bytes mixed, the next one of its first k products, the others nought -/
def mixP (m c : List Nat) (i k : Nat) : List Nat := (List.range 4).map fun j => if j < i then mixA m c j 4 else if j = i then mixA m c i k else 0
theorem mixP_length (m c : List Nat) (i k : Nat) : (mixP m c i k).length = 4 := by simp [mixP]
theorem mixP_zero (m c : List Nat) : mixP m c 0 0 = List.replicate 4 0 := by simp [mixP, mixA, List.range_succ]
theorem mixP_get (m c : List Nat) (i k : Nat) (hi : i < 4) : (mixP m c i k)[i]? = some (mixA m c i k) := by
  unfold mixP
  simp [hi]
theorem mixP_set (m c : List Nat) (i k : Nat) (hi : i < 4) : (mixP m c i k).set i (mixA m c i (k + 1)) = mixP m c i (k + 1) := by
  apply List.ext_getElem?
  intro j
  rw [List.getElem?_set]
  unfold mixP
  by_cases hj : i = j
  · subst hj
    simp [hi]
  · rw [if_neg hj]
    simp only [List.getElem?_map]
    by_cases h4 : j < 4
    · simp [h4, show ¬ j = i by omega]
    · simp [h4]
theorem mixP_next (m c : List Nat) (i : Nat) : mixP m c i 4 = mixP m c (i + 1) 0 := by
  unfold mixP
  apply List.map_congr_left
  intro j hj
  by_cases h1 : j < i
  · rw [if_pos h1, if_pos (by omega)]
  · rw [if_neg h1]
    by_cases h2 : j = i
    · subst h2; rw [if_pos rfl, if_pos (by omega)]
    · rw [if_neg h2, if_neg (by omega)]
      split
      · simp [mixA]
      · rfl
theorem mixP_full (m c : List Nat) : mixP m c 4 0 = mixC m c := by
  unfold mixP mixC
  apply List.map_congr_left
  intro j hj
  rw [if_pos (List.mem_range.1 hj)]
theorem mixP_lt (m c : List Nat) (i k : Nat) : ∀ x ∈ mixP m c i k, x < 256 := by
  intro x hx
  simp only [mixP, List.mem_map] at hx
  obtain ⟨j, _, rfl⟩ := hx
  split
  · exact mixA_lt _ _ _ _
  · split
    · exact mixA_lt _ _ _ _
    · omega
/-- a block, its first n columns mixed, the others nought -/
def colP (m b : List Nat) (n : Nat) : List Nat := mixN m b n ++ List.replicate (16 - 4 * n) 0
theorem colP_length (m b : List Nat) (n : Nat) (hn : n ≤ 4) : (colP m b n).length = 16 := by simp [colP, mixN_length]; omega
theorem colP_zero (m b : List Nat) : colP m b 0 = List.replicate 16 0 := rfl
theorem colP_full (m b : List Nat) : colP m b 4 = mixL m b := by simp [colP, mixL]
theorem colP_next (m b : List Nat) (n : Nat) (hn : n < 4) : (colP m b n).take (4 * n) ++ mixC m ((b.drop (4 * n)).take 4) ++ (colP m b n).drop (4 * n + 4) = colP m b (n + 1) := by
  have hl := mixN_length m b n
  unfold colP
  obtain ⟨c, hc⟩ : ∃ c, c = mixC m ((b.drop (4 * n)).take 4) := ⟨_, rfl⟩
  have hn1 : mixN m b (n + 1) = mixN m b n ++ c := by rw [hc]; rfl
  rw [hn1, ← hc]
  generalize mixN m b n = x at *
  rw [List.take_append, List.drop_append, hl, Nat.sub_self, List.take_zero, List.append_nil, List.take_of_length_le (by omega), List.drop_eq_nil_of_le (by omega : x.length ≤ 4 * n + 4), List.nil_append, List.drop_replicate]
  rw [show 16 - 4 * n - (4 * n + 4 - 4 * n) = 16 - 4 * (n + 1) from by omega]
end Nep
/- Plain laws of layer 7: encrypting and decrypting, by the rounds' keys one behind the other. -/
namespace Nep
def rkF (rk : List Nat) (r : Nat) : List Nat := (rk.drop (16 * r)).take 16
def encF (rk b : List Nat) : Nat → List Nat
  | 0 => xorL b (rkF rk 0)
  | r + 1 => xorL (if r + 1 < 14 then mixL [2, 3, 1, 1] (shL ((encF rk b r).map sb) 1) else shL ((encF rk b r).map sb) 1) (rkF rk (r + 1))
def decF (rk b : List Nat) : Nat → List Nat
  | 0 => b
  | j + 1 => (shL (if 0 < j then mixL [14, 11, 13, 9] (xorL (decF rk b j) (rkF rk (14 - j))) else xorL (decF rk b j) (rkF rk (14 - j))) 3).map bk
theorem rkF_eq (key : List Nat) (hk : key.length = 32) (hb : ∀ x ∈ key, x < 256) (r : Nat) : rkF (flatL key) r = rkL (expL key 60) r := (rkL_flat key hk hb r).symm
theorem encF_eq (key b : List Nat) (hk : key.length = 32) (hb : ∀ x ∈ key, x < 256) (r : Nat) : encF (flatL key) b r = encR (expL key 60) b r := by
  induction r with
  | zero => simp only [encF, encR, rkF_eq key hk hb]
  | succ r ih => simp only [encF, encR, rkF_eq key hk hb, ih]
theorem decF_eq (key b : List Nat) (hk : key.length = 32) (hb : ∀ x ∈ key, x < 256) (j : Nat) : decF (flatL key) b j = decR (expL key 60) b j := by
  induction j with
  | zero => rfl
  | succ j ih => simp only [decF, decR, rkF_eq key hk hb, ih]
theorem rkF_length (rk : List Nat) (h : rk.length = 240) (r : Nat) (hr : r < 15) : (rkF rk r).length = 16 := by
  unfold rkF; rw [List.length_take, List.length_drop]; omega
theorem rkF_bytes (rk : List Nat) (h : ∀ x ∈ rk, x < 256) (r : Nat) : ∀ x ∈ rkF rk r, x < 256 := fun x hx => h x (List.mem_of_mem_drop (List.mem_of_mem_take hx))
theorem mixL_length (m b : List Nat) : (mixL m b).length = 16 := mixN_length m b 4
theorem mixL_bytes (m b : List Nat) : ∀ x ∈ mixL m b, x < 256 := mixN_bytes m b 4
theorem shL_bytes (b : List Nat) (h : ∀ x ∈ b, x < 256) (n : Nat) : ∀ x ∈ shL b n, x < 256 := by
  intro x hx
  simp only [shL, List.mem_map] at hx
  obtain ⟨i, _, rfl⟩ := hx
  rcases Nat.lt_or_ge (4 * ((i / 4 + n * (i % 4)) % 4) + i % 4) b.length with hl | hl
  · rw [List.getD_eq_getElem?_getD, List.getElem?_eq_getElem hl]
    exact h _ (List.getElem_mem _)
  · rw [List.getD_eq_getElem?_getD, List.getElem?_eq_none hl]
    simp
theorem map_sb_bytes (b : List Nat) : ∀ x ∈ b.map sb, x < 256 := by
  intro x hx
  simp only [List.mem_map] at hx
  obtain ⟨y, _, rfl⟩ := hx
  exact sb_lt y
theorem encF_blk (rk b : List Nat) (hr : rk.length = 240) (hrb : ∀ x ∈ rk, x < 256) (hb : b.length = 16) (hbb : ∀ x ∈ b, x < 256) (r : Nat) (h : r < 15) : (encF rk b r).length = 16 ∧ ∀ x ∈ encF rk b r, x < 256 := by
  cases r with
  | zero =>
    have hl := rkF_length rk hr 0 (by omega)
    exact ⟨by rw [encF, xorL_length _ _ (by omega)]; exact hb, xorL_bytes hbb (rkF_bytes rk hrb 0)⟩
  | succ r =>
    have hl := rkF_length rk hr (r + 1) h
    unfold encF
    split
    · exact ⟨by rw [xorL_length _ _ (by rw [mixL_length, hl]), mixL_length], xorL_bytes (mixL_bytes _ _) (rkF_bytes rk hrb _)⟩
    · exact ⟨by rw [xorL_length _ _ (by rw [shL_length, hl]), shL_length], xorL_bytes (shL_bytes _ (map_sb_bytes _) _) (rkF_bytes rk hrb _)⟩
end Nep
namespace Nep
theorem map_bk_bytes (b : List Nat) : ∀ x ∈ b.map bk, x < 256 := by
  intro x hx
  simp only [List.mem_map] at hx
  obtain ⟨y, _, rfl⟩ := hx
  exact bk_lt y
theorem decF_blk (rk b : List Nat) (hb : b.length = 16) (hbb : ∀ x ∈ b, x < 256) (j : Nat) : (decF rk b j).length = 16 ∧ ∀ x ∈ decF rk b j, x < 256 := by
  cases j with
  | zero => exact ⟨hb, hbb⟩
  | succ j => exact ⟨by rw [decF, List.length_map, shL_length], by rw [decF]; exact map_bk_bytes _⟩
end Nep
/- Plain laws of layer 7: decrypting undoes encrypting, and encrypting decrypting. -/
namespace Nep
theorem xt_xor_all : ∀ x, x < 256 → ∀ y, y < 256 → xt (x ^^^ y) = xt x ^^^ xt y := by decide +kernel
theorem xor8 {x y : Nat} (hx : x < 256) (hy : y < 256) : x ^^^ y < 256 := Nat.xor_lt_two_pow (n := 8) hx hy
theorem r1 : ∀ x, x < 256 → rmul 1 x = x := by decide +kernel
theorem r2 : ∀ x, x < 256 → rmul 2 x = xt x := by decide +kernel
theorem r3 : ∀ x, x < 256 → rmul 3 x = xt x ^^^ x := by decide +kernel
theorem r9 : ∀ x, x < 256 → rmul 9 x = xt (xt (xt x)) ^^^ x := by decide +kernel
theorem r11 : ∀ x, x < 256 → rmul 11 x = xt (xt (xt x)) ^^^ xt x ^^^ x := by decide +kernel
theorem r13 : ∀ x, x < 256 → rmul 13 x = xt (xt (xt x)) ^^^ xt (xt x) ^^^ x := by decide +kernel
theorem r14 : ∀ x, x < 256 → rmul 14 x = xt (xt (xt x)) ^^^ xt (xt x) ^^^ xt x := by decide +kernel
theorem rmul_xor {a x y : Nat} (ha : a ∈ [1, 2, 3, 9, 11, 13, 14]) (hx : x < 256) (hy : y < 256) : rmul a (x ^^^ y) = rmul a x ^^^ rmul a y := by
  have h1 := xt_xor_all x hx y hy
  have h2 := xt_xor_all _ (xt_lt x) _ (xt_lt y)
  have h3 := xt_xor_all _ (xt_lt (xt x)) _ (xt_lt (xt y))
  have hxy := xor8 hx hy
  simp only [List.mem_cons, List.not_mem_nil, or_false] at ha
  rcases ha with rfl | rfl | rfl | rfl | rfl | rfl | rfl
  · rw [r1 _ hxy, r1 _ hx, r1 _ hy]
  · rw [r2 _ hxy, r2 _ hx, r2 _ hy, h1]
  · rw [r3 _ hxy, r3 _ hx, r3 _ hy, h1]; ac_rfl
  · rw [r9 _ hxy, r9 _ hx, r9 _ hy, h1, h2, h3]; ac_rfl
  · rw [r11 _ hxy, r11 _ hx, r11 _ hy, h1, h2, h3]; ac_rfl
  · rw [r13 _ hxy, r13 _ hx, r13 _ hy, h1, h2, h3]; ac_rfl
  · rw [r14 _ hxy, r14 _ hx, r14 _ hy, h1, h2, h3]; ac_rfl

/-- what a product of products leaves of one byte -/
theorem inv0 : ∀ x, x < 256 → rmul 14 (rmul 2 x) ^^^ rmul 11 (rmul 1 x) ^^^ rmul 13 (rmul 1 x) ^^^ rmul 9 (rmul 3 x) = x := by decide +kernel
theorem inv1 : ∀ x, x < 256 → rmul 14 (rmul 3 x) ^^^ rmul 11 (rmul 2 x) ^^^ rmul 13 (rmul 1 x) ^^^ rmul 9 (rmul 1 x) = 0 := by decide +kernel
theorem inv2 : ∀ x, x < 256 → rmul 14 (rmul 1 x) ^^^ rmul 11 (rmul 3 x) ^^^ rmul 13 (rmul 2 x) ^^^ rmul 9 (rmul 1 x) = 0 := by decide +kernel
theorem inv3 : ∀ x, x < 256 → rmul 14 (rmul 1 x) ^^^ rmul 11 (rmul 1 x) ^^^ rmul 13 (rmul 3 x) ^^^ rmul 9 (rmul 2 x) = 0 := by decide +kernel
theorem jnv0 : ∀ x, x < 256 → rmul 2 (rmul 14 x) ^^^ rmul 3 (rmul 9 x) ^^^ rmul 1 (rmul 13 x) ^^^ rmul 1 (rmul 11 x) = x := by decide +kernel
theorem jnv1 : ∀ x, x < 256 → rmul 2 (rmul 11 x) ^^^ rmul 3 (rmul 14 x) ^^^ rmul 1 (rmul 9 x) ^^^ rmul 1 (rmul 13 x) = 0 := by decide +kernel
theorem jnv2 : ∀ x, x < 256 → rmul 2 (rmul 13 x) ^^^ rmul 3 (rmul 11 x) ^^^ rmul 1 (rmul 14 x) ^^^ rmul 1 (rmul 9 x) = 0 := by decide +kernel
theorem jnv3 : ∀ x, x < 256 → rmul 2 (rmul 9 x) ^^^ rmul 3 (rmul 13 x) ^^^ rmul 1 (rmul 11 x) ^^^ rmul 1 (rmul 14 x) = 0 := by decide +kernel

theorem mix4 (m0 m1 m2 m3 a b c d : Nat) : mixC [m0, m1, m2, m3] [a, b, c, d] =
    [rmul m0 a ^^^ rmul m1 b ^^^ rmul m2 c ^^^ rmul m3 d, rmul m0 b ^^^ rmul m1 c ^^^ rmul m2 d ^^^ rmul m3 a,
     rmul m0 c ^^^ rmul m1 d ^^^ rmul m2 a ^^^ rmul m3 b, rmul m0 d ^^^ rmul m1 a ^^^ rmul m2 b ^^^ rmul m3 c] := by
  simp [mixC, mixA, List.range_succ]

theorem lin4 {m n0 n1 n2 n3 a b c d : Nat} (h : m ∈ [1, 2, 3, 9, 11, 13, 14]) :
    rmul m (rmul n0 a ^^^ rmul n1 b ^^^ rmul n2 c ^^^ rmul n3 d) = rmul m (rmul n0 a) ^^^ rmul m (rmul n1 b) ^^^ rmul m (rmul n2 c) ^^^ rmul m (rmul n3 d) := by
  rw [rmul_xor h (xor8 (xor8 (rmul_lt _ _) (rmul_lt _ _)) (rmul_lt _ _)) (rmul_lt _ _), rmul_xor h (xor8 (rmul_lt _ _) (rmul_lt _ _)) (rmul_lt _ _), rmul_xor h (rmul_lt _ _) (rmul_lt _ _)]

theorem four_xor {p q r s : Nat} {x : Nat} (a1 a2 a3 a4 b1 b2 b3 b4 c1 c2 c3 c4 d1 d2 d3 d4 : Nat) (hp : a1 ^^^ a2 ^^^ a3 ^^^ a4 = x) (hq : b1 ^^^ b2 ^^^ b3 ^^^ b4 = 0) (hr : c1 ^^^ c2 ^^^ c3 ^^^ c4 = 0) (hs : d1 ^^^ d2 ^^^ d3 ^^^ d4 = 0)
    (hP : p = a1 ^^^ b1 ^^^ c1 ^^^ d1) (hQ : q = b2 ^^^ c2 ^^^ d2 ^^^ a2) (hR : r = c3 ^^^ d3 ^^^ a3 ^^^ b3) (hS : s = d4 ^^^ a4 ^^^ b4 ^^^ c4) : p ^^^ q ^^^ r ^^^ s = x := by
  have e : p ^^^ q ^^^ r ^^^ s = (a1 ^^^ a2 ^^^ a3 ^^^ a4) ^^^ (b1 ^^^ b2 ^^^ b3 ^^^ b4) ^^^ (c1 ^^^ c2 ^^^ c3 ^^^ c4) ^^^ (d1 ^^^ d2 ^^^ d3 ^^^ d4) := by
    rw [hP, hQ, hR, hS]; ac_rfl
  rw [e, hp, hq, hr, hs]; simp

theorem unmix_mix {c : List Nat} (hl : c.length = 4) (hb : ∀ x ∈ c, x < 256) : mixC [14, 11, 13, 9] (mixC [2, 3, 1, 1] c) = c := by
  obtain ⟨a, b, c, d, rfl⟩ := four hl
  have ha := hb a (by simp)
  have hb' := hb b (by simp)
  have hc := hb c (by simp)
  have hd := hb d (by simp)
  rw [mix4, mix4]
  have m14 : 14 ∈ [1, 2, 3, 9, 11, 13, 14] := by decide
  have m11 : 11 ∈ [1, 2, 3, 9, 11, 13, 14] := by decide
  have m13 : 13 ∈ [1, 2, 3, 9, 11, 13, 14] := by decide
  have m9 : 9 ∈ [1, 2, 3, 9, 11, 13, 14] := by decide
  rw [lin4 m14, lin4 m14, lin4 m14, lin4 m14, lin4 m11, lin4 m11, lin4 m11, lin4 m11, lin4 m13, lin4 m13, lin4 m13, lin4 m13, lin4 m9, lin4 m9, lin4 m9, lin4 m9]
  simp only [List.cons.injEq, and_true]
  exact ⟨four_xor _ _ _ _ _ _ _ _ _ _ _ _ _ _ _ _ (inv0 a ha) (inv1 b hb') (inv2 c hc) (inv3 d hd) rfl rfl rfl rfl,
    four_xor _ _ _ _ _ _ _ _ _ _ _ _ _ _ _ _ (inv0 b hb') (inv1 c hc) (inv2 d hd) (inv3 a ha) rfl rfl rfl rfl,
    four_xor _ _ _ _ _ _ _ _ _ _ _ _ _ _ _ _ (inv0 c hc) (inv1 d hd) (inv2 a ha) (inv3 b hb') rfl rfl rfl rfl,
    four_xor _ _ _ _ _ _ _ _ _ _ _ _ _ _ _ _ (inv0 d hd) (inv1 a ha) (inv2 b hb') (inv3 c hc) rfl rfl rfl rfl⟩
theorem mix_unmix {c : List Nat} (hl : c.length = 4) (hb : ∀ x ∈ c, x < 256) : mixC [2, 3, 1, 1] (mixC [14, 11, 13, 9] c) = c := by
  obtain ⟨a, b, c, d, rfl⟩ := four hl
  have ha := hb a (by simp)
  have hb' := hb b (by simp)
  have hc := hb c (by simp)
  have hd := hb d (by simp)
  rw [mix4, mix4]
  have m2 : 2 ∈ [1, 2, 3, 9, 11, 13, 14] := by decide
  have m3 : 3 ∈ [1, 2, 3, 9, 11, 13, 14] := by decide
  have m1 : 1 ∈ [1, 2, 3, 9, 11, 13, 14] := by decide
  rw [lin4 m2, lin4 m2, lin4 m2, lin4 m2, lin4 m3, lin4 m3, lin4 m3, lin4 m3, lin4 m1, lin4 m1, lin4 m1, lin4 m1]
  simp only [List.cons.injEq, and_true]
  exact ⟨four_xor _ _ _ _ _ _ _ _ _ _ _ _ _ _ _ _ (jnv0 a ha) (jnv1 b hb') (jnv2 c hc) (jnv3 d hd) rfl rfl rfl rfl,
    four_xor _ _ _ _ _ _ _ _ _ _ _ _ _ _ _ _ (jnv0 b hb') (jnv1 c hc) (jnv2 d hd) (jnv3 a ha) rfl rfl rfl rfl,
    four_xor _ _ _ _ _ _ _ _ _ _ _ _ _ _ _ _ (jnv0 c hc) (jnv1 d hd) (jnv2 a ha) (jnv3 b hb') rfl rfl rfl rfl,
    four_xor _ _ _ _ _ _ _ _ _ _ _ _ _ _ _ _ (jnv0 d hd) (jnv1 a ha) (jnv2 b hb') (jnv3 c hc) rfl rfl rfl rfl⟩

theorem mixL_four (m b : List Nat) : mixL m b = mixC m (b.take 4) ++ (mixC m ((b.drop 4).take 4) ++ (mixC m ((b.drop 8).take 4) ++ mixC m ((b.drop 12).take 4))) := by
  simp [mixL, mixN, List.append_assoc]
theorem take4_app {x y : List Nat} (hx : x.length = 4) : (x ++ y).take 4 = x := by rw [List.take_append, List.take_of_length_le (by omega), hx]; simp
theorem drop4_app {x y : List Nat} (hx : x.length = 4) : (x ++ y).drop 4 = y := by rw [List.drop_append, List.drop_eq_nil_of_le (by omega), hx]; simp
theorem mixL_inv (m n : List Nat) (h : ∀ c : List Nat, c.length = 4 → (∀ x ∈ c, x < 256) → mixC m (mixC n c) = c) {b : List Nat} (hl : b.length = 16) (hb : ∀ x ∈ b, x < 256) : mixL m (mixL n b) = b := by
  have hbt : ∀ k, ∀ x ∈ (b.drop k).take 4, x < 256 := fun k x hx => hb x (List.mem_of_mem_drop (List.mem_of_mem_take hx))
  have hlt : ∀ k, k ≤ 12 → ((b.drop k).take 4).length = 4 := fun k hk => by rw [List.length_take, List.length_drop]; omega
  rw [mixL_four m, mixL_four n]
  have l0 := mixC_length n (b.take 4)
  have l1 := mixC_length n ((b.drop 4).take 4)
  have l2 := mixC_length n ((b.drop 8).take 4)
  have l3 := mixC_length n ((b.drop 12).take 4)
  generalize hc0 : mixC n (b.take 4) = c0 at *
  generalize hc1 : mixC n ((b.drop 4).take 4) = c1 at *
  generalize hc2 : mixC n ((b.drop 8).take 4) = c2 at *
  generalize hc3 : mixC n ((b.drop 12).take 4) = c3 at *
  have d8 : (c0 ++ (c1 ++ (c2 ++ c3))).drop 8 = c2 ++ c3 := by
    rw [show (8 : Nat) = 4 + 4 from rfl, ← List.drop_drop, drop4_app l0, drop4_app l1]
  have d12 : (c0 ++ (c1 ++ (c2 ++ c3))).drop 12 = c3 := by
    rw [show (12 : Nat) = 8 + 4 from rfl, ← List.drop_drop, d8, drop4_app l2]
  rw [d12, d8, take4_app l0, drop4_app l0, take4_app l1, take4_app l2, List.take_of_length_le (by omega), ← hc0, ← hc1, ← hc2, ← hc3]
  have h0 := h (b.take 4) (by rw [List.length_take]; omega) (fun x hx => hb x (List.mem_of_mem_take hx))
  rw [h0, h _ (hlt 4 (by omega)) (hbt 4), h _ (hlt 8 (by omega)) (hbt 8), h _ (hlt 12 (by omega)) (hbt 12)]
  have e12 : (b.drop 12).take 4 = b.drop 12 := List.take_of_length_le (by rw [List.length_drop]; omega)
  have e8 : (b.drop 8).take 4 ++ b.drop 12 = b.drop 8 := by
    have := List.take_append_drop 4 (b.drop 8)
    rwa [List.drop_drop] at this
  have e4 : (b.drop 4).take 4 ++ b.drop 8 = b.drop 4 := by
    have := List.take_append_drop 4 (b.drop 4)
    rwa [List.drop_drop] at this
  rw [e12, e8, e4, List.take_append_drop]

theorem sixteenN {l : List Nat} (h : l.length = 16) : ∃ a b c d e f g h i j k m n o p q, l = [a, b, c, d, e, f, g, h, i, j, k, m, n, o, p, q] := by
  match l, h with
  | [a, b, c, d, e, f, g, h, i, j, k, m, n, o, p, q], _ => exact ⟨a, b, c, d, e, f, g, h, i, j, k, m, n, o, p, q, rfl⟩
theorem shL_13 {b : List Nat} (hl : b.length = 16) : shL (shL b 1) 3 = b := by
  obtain ⟨a, b, c, d, e, f, g, h, i, j, k, m, n, o, p, q, rfl⟩ := sixteenN hl
  rfl
theorem shL_31 {b : List Nat} (hl : b.length = 16) : shL (shL b 3) 1 = b := by
  obtain ⟨a, b, c, d, e, f, g, h, i, j, k, m, n, o, p, q, rfl⟩ := sixteenN hl
  rfl
theorem xorL_self {a b : List Nat} (h : a.length = b.length) : xorL (xorL a b) b = a := by
  apply List.ext_getElem
  · rw [xorL_length _ _ (by rw [xorL_length _ _ h]; exact h), xorL_length _ _ h]
  · intro i h1 h2
    simp [xorL, Nat.xor_assoc]
theorem map_bk_sb {l : List Nat} (h : ∀ x ∈ l, x < 256) : (l.map sb).map bk = l := by
  rw [List.map_map]
  conv => rhs; rw [← List.map_id l]
  exact List.map_congr_left fun x hx => bk_sb x (h x hx)
theorem map_sb_bk {l : List Nat} (h : ∀ x ∈ l, x < 256) : (l.map bk).map sb = l := by
  rw [List.map_map]
  conv => rhs; rw [← List.map_id l]
  exact List.map_congr_left fun x hx => sb_bk x (h x hx)

theorem dec_enc (rk b : List Nat) (hr : rk.length = 240) (hrb : ∀ x ∈ rk, x < 256) (hb : b.length = 16) (hbb : ∀ x ∈ b, x < 256) (j : Nat) (hj : j ≤ 14) : decF rk (encF rk b 14) j = encF rk b (14 - j) := by
  induction j with
  | zero => rfl
  | succ j ih =>
    have hk := rkF_length rk hr (14 - j) (by omega)
    have he := encF_blk rk b hr hrb hb hbb (13 - j) (by omega)
    rw [decF, ih (by omega), show 14 - j = (13 - j) + 1 from by omega, show 14 - (j + 1) = 13 - j from by omega]
    rw [show 14 - j = (13 - j) + 1 from by omega] at hk
    rw [encF]
    by_cases h0 : 0 < j
    · rw [if_pos h0, if_pos (by omega), xorL_self (by rw [mixL_length, hk]), mixL_inv _ _ (fun c h1 h2 => unmix_mix h1 h2) (shL_length _ _) (shL_bytes _ (map_sb_bytes _) _),
        shL_13 (by rw [List.length_map]; exact he.1), map_bk_sb he.2]
    · rw [if_neg h0, if_neg (by omega), xorL_self (by rw [shL_length, hk]), shL_13 (by rw [List.length_map]; exact he.1), map_bk_sb he.2]
theorem dec_enc_all (rk b : List Nat) (hr : rk.length = 240) (hrb : ∀ x ∈ rk, x < 256) (hb : b.length = 16) (hbb : ∀ x ∈ b, x < 256) : xorL (decF rk (encF rk b 14) 14) (rkF rk 0) = b := by
  rw [dec_enc rk b hr hrb hb hbb 14 (by omega)]
  exact xorL_self (by rw [rkF_length rk hr 0 (by omega), hb])

theorem enc_dec (rk b : List Nat) (hr : rk.length = 240) (hrb : ∀ x ∈ rk, x < 256) (hb : b.length = 16) (hbb : ∀ x ∈ b, x < 256) (r : Nat) (h : r ≤ 14) : encF rk (xorL (decF rk b 14) (rkF rk 0)) r = decF rk b (14 - r) := by
  induction r with
  | zero =>
    rw [encF, xorL_self (by rw [rkF_length rk hr 0 (by omega)]; exact (decF_blk rk b hb hbb 14).1)]
  | succ r ih =>
    have hk := rkF_length rk hr (r + 1) (by omega)
    have he := decF_blk rk b hb hbb (13 - r)
    have hx : (xorL (decF rk b (13 - r)) (rkF rk (r + 1))).length = 16 := by rw [xorL_length _ _ (by rw [he.1, hk])]; exact he.1
    have hxb : ∀ x ∈ xorL (decF rk b (13 - r)) (rkF rk (r + 1)), x < 256 := xorL_bytes he.2 (rkF_bytes rk hrb _)
    rw [encF, ih (by omega), show 14 - r = (13 - r) + 1 from by omega, decF, show 14 - (r + 1) = 13 - r from by omega, show 14 - (13 - r) = r + 1 from by omega]
    by_cases h0 : 0 < 13 - r
    · rw [if_pos h0, if_pos (by omega), map_sb_bk (shL_bytes _ (mixL_bytes _ _) _), shL_31 (mixL_length _ _), mixL_inv _ _ (fun c h1 h2 => mix_unmix h1 h2) hx hxb, xorL_self (by rw [he.1, hk])]
    · rw [if_neg h0, if_neg (by omega), map_sb_bk (shL_bytes _ hxb _), shL_31 hx, xorL_self (by rw [he.1, hk])]
theorem enc_dec_all (rk b : List Nat) (hr : rk.length = 240) (hrb : ∀ x ∈ rk, x < 256) (hb : b.length = 16) (hbb : ∀ x ∈ b, x < 256) : encF rk (xorL (decF rk b 14) (rkF rk 0)) 14 = b := by
  rw [enc_dec rk b hr hrb hb hbb 14 (by omega)]
  rfl
end Nep
