/- Plain laws of layer 7: words as numbers. -/
import Derived.Test.YtfinekmegiengaaPlainC
namespace Nep
theorem xor_join (x y u v : Nat) (hy : y < 256) (hv : v < 256) : (x * 256 + y) ^^^ (u * 256 + v) = (x ^^^ u) * 256 + (y ^^^ v) := by
  have h1 : ((x * 256 + y) ^^^ (u * 256 + v)) / 2 ^ 8 = (x ^^^ u) := by
    rw [Nat.xor_div_two_pow]
    congr 1 <;> omega
  have h2 : ((x * 256 + y) ^^^ (u * 256 + v)) % 2 ^ 8 = (y ^^^ v) := by
    rw [Nat.xor_mod_two_pow]
    congr 1 <;> omega
  omega
theorem numF_xor : ∀ (a b : List Nat) (n m : Nat), a.length = b.length → (∀ x ∈ a, x < 256) → (∀ x ∈ b, x < 256) → numF (n ^^^ m) (xorL a b) = numF n a ^^^ numF m b
  | [], [], n, m, _, _, _ => rfl
  | x :: a, y :: b, n, m, h, ha, hb => by
    have ih := numF_xor a b (n * 256 + x) (m * 256 + y) (by simpa using h) (fun z hz => ha z (by simp [hz])) (fun z hz => hb z (by simp [hz]))
    simp only [xorL, List.zipWith_cons_cons, numF] at ih ⊢
    rw [← ih, xor_join _ _ _ _ (ha x (by simp)) (hb y (by simp))]
theorem num_xor {a b : List Nat} (h : a.length = b.length) (ha : ∀ x ∈ a, x < 256) (hb : ∀ x ∈ b, x < 256) : num (xorL a b) = num a ^^^ num b := numF_xor a b 0 0 h ha hb

/-- a word's bytes put for -/
def wordN (x : Nat) : Nat := sb (x / 16777216) * 16777216 + sb (x / 65536 % 256) * 65536 + sb (x / 256 % 256) * 256 + sb (x % 256)
def rotN (x : Nat) : Nat := x % 16777216 * 256 + x / 16777216
theorem wordN_num {a b c d : Nat} (hb : b < 256) (hc : c < 256) (hd : d < 256) : wordN (num [a, b, c, d]) = num [sb a, sb b, sb c, sb d] := by
  rw [num4, num4]
  unfold wordN
  rw [show (a * 16777216 + b * 65536 + c * 256 + d) / 16777216 = a from by omega, show (a * 16777216 + b * 65536 + c * 256 + d) / 65536 % 256 = b from by omega,
    show (a * 16777216 + b * 65536 + c * 256 + d) / 256 % 256 = c from by omega, show (a * 16777216 + b * 65536 + c * 256 + d) % 256 = d from by omega]
theorem rotN_num {a b c d : Nat} (hb : b < 256) (hc : c < 256) (hd : d < 256) : rotN (num [a, b, c, d]) = num [b, c, d, a] := by
  rw [num4, num4]
  unfold rotN
  omega
theorem num_first {a b c d r : Nat} (ha : a < 256) (hb : b < 256) (hc : c < 256) (hd : d < 256) (hr : r < 256) : num [a ^^^ r, b, c, d] = num [a, b, c, d] ^^^ (r * 16777216) := by
  have h : xorL [a, b, c, d] [r, 0, 0, 0] = [a ^^^ r, b, c, d] := by simp [xorL]
  have h2 : num [r, 0, 0, 0] = r * 16777216 := by rw [num4]; omega
  rw [← h, num_xor (a := [a, b, c, d]) (b := [r, 0, 0, 0]) rfl (by simp; omega) (by simp; omega), h2]

/-- what the word ahead is made of, as a number -/
def gN (i x : Nat) : Nat := if i % 8 = 0 then wordN (rotN x) ^^^ (pw (i / 8 - 1) * 16777216) else if i % 8 = 4 then wordN x else x
theorem num_gW {i : Nat} {x : List Nat} (h : Word4 x) (hi : i < 60) : num (gW i x) = gN i (num x) := by
  obtain ⟨a, b, c, d, rfl⟩ := four h.1
  have ha := h.2 a (by simp)
  have hb := h.2 b (by simp)
  have hc := h.2 c (by simp)
  have hd := h.2 d (by simp)
  have hp : pw (i / 8 - 1) ≤ pw 6 := pw_le _ _ (by omega)
  have hp6 : pw 6 = 64 := by decide
  unfold gW gN
  split
  · rw [rotN_num hb hc hd, wordN_num hc hd ha, ← num_first (sb_lt _) (sb_lt _) (sb_lt _) (sb_lt _) (by omega)]
    rfl
  · split
    · rw [wordN_num hb hc hd]
      rfl
    · rfl

/-- the words as numbers -/
def wsL (key : List Nat) : List Nat := (expL key 60).map num
theorem wsL_length (key : List Nat) : (wsL key).length = 60 := by simp [wsL, expL_length]
theorem Word4.num_lt {x : List Nat} (h : Word4 x) : num x < 4294967296 := by
  have := Nep.num_lt x h.2
  rw [h.1] at this
  omega
theorem expL_at (key : List Nat) (hk : key.length = 32) (hb : ∀ x ∈ key, x < 256) (i : Nat) (hi : i < 60) : Word4 ((expL key 60).getD i []) := by
  have hl : i < (expL key 60).length := by rw [expL_length]; exact hi
  rw [List.getD_eq_getElem?_getD, List.getElem?_eq_getElem hl]
  exact expL_word key hk hb 60 (by omega) _ (List.getElem_mem hl)
theorem wsL_get (key : List Nat) (i : Nat) (hi : i < 60) : (wsL key).getD i 0 = num ((expL key 60).getD i []) := by
  have hl : i < (expL key 60).length := by rw [expL_length]; exact hi
  simp [wsL, List.getElem?_eq_getElem hl]
theorem wsL_lt (key : List Nat) (hk : key.length = 32) (hb : ∀ x ∈ key, x < 256) (i : Nat) : (wsL key).getD i 0 < 4294967296 := by
  by_cases hi : i < 60
  · rw [wsL_get key i hi]
    exact (expL_at key hk hb i hi).num_lt
  · have : (wsL key)[i]? = none := List.getElem?_eq_none (by rw [wsL_length]; omega)
    simp [this]
theorem wsL_low (key : List Nat) (i : Nat) (hi : i < 8) : (wsL key).getD i 0 = num ((key.drop (4 * i)).take 4) := by
  rw [wsL_get key i (by omega), expL_get key i 60 (by omega)]
  unfold nextW
  rw [if_pos hi]
theorem wsL_high (key : List Nat) (hk : key.length = 32) (hb : ∀ x ∈ key, x < 256) (i : Nat) (h8 : 8 ≤ i) (hi : i < 60) : (wsL key).getD i 0 = (wsL key).getD (i - 8) 0 ^^^ gN i ((wsL key).getD (i - 1) 0) := by
  have g1 := expL_at key hk hb (i - 1) (by omega)
  have g8 := expL_at key hk hb (i - 8) (by omega)
  have gg := gW_word g1 hi
  rw [wsL_get key i hi, wsL_get key (i - 8) (by omega), wsL_get key (i - 1) (by omega), expL_get key i 60 hi]
  unfold nextW
  rw [if_neg (by omega), expL_get key (i - 8) i (by omega), expL_get key (i - 1) i (by omega), ← num_gW g1 hi, expL_get key (i - 1) 60 (by omega), expL_get key (i - 8) 60 (by omega)] at *
  exact num_xor (by rw [g8.1, gg.1]) g8.2 gg.2
end Nep
