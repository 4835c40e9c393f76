/- Plain laws of layer 7: encrypting and decrypting, by the rounds' keys one behind the other. -/
import Derived.Test.YtfinekmegiengaaPlainF
namespace Nep
def rkF (rk : List Nat) (r : Nat) : List Nat := (rk.drop (16 * r)).take 16
def encF (rk b : List Nat) : Nat → List Nat
  | 0 => xorL b (rkF rk 0)
  | r + 1 => xorL (if r + 1 < 14 then mixL [2, 3, 1, 1] (shL ((encF rk b r).map sb) 1) else shL ((encF rk b r).map sb) 1) (rkF rk (r + 1))
def decF (rk b : List Nat) : Nat → List Nat
  | 0 => b
  | j + 1 => (shL (if 0 < j then mixL [14, 11, 13, 9] (xorL (decF rk b j) (rkF rk (14 - j))) else xorL (decF rk b j) (rkF rk (14 - j))) 3).map bk
theorem rkF_eq (key : List Nat) (hk : key.length = 32) (hb : ∀ x ∈ key, x < 256) (r : Nat) : rkF (flatL key) r = rkL (expL key 60) r := (rkL_flat key hk hb r).symm
theorem encF_eq (key b : List Nat) (hk : key.length = 32) (hb : ∀ x ∈ key, x < 256) (r : Nat) : encF (flatL key) b r = encR (expL key 60) b r := by
  induction r with
  | zero => simp only [encF, encR, rkF_eq key hk hb]
  | succ r ih => simp only [encF, encR, rkF_eq key hk hb, ih]
theorem decF_eq (key b : List Nat) (hk : key.length = 32) (hb : ∀ x ∈ key, x < 256) (j : Nat) : decF (flatL key) b j = decR (expL key 60) b j := by
  induction j with
  | zero => rfl
  | succ j ih => simp only [decF, decR, rkF_eq key hk hb, ih]
theorem rkF_length (rk : List Nat) (h : rk.length = 240) (r : Nat) (hr : r < 15) : (rkF rk r).length = 16 := by
  unfold rkF; rw [List.length_take, List.length_drop]; omega
theorem rkF_bytes (rk : List Nat) (h : ∀ x ∈ rk, x < 256) (r : Nat) : ∀ x ∈ rkF rk r, x < 256 := fun x hx => h x (List.mem_of_mem_drop (List.mem_of_mem_take hx))
theorem mixL_length (m b : List Nat) : (mixL m b).length = 16 := mixN_length m b 4
theorem mixL_bytes (m b : List Nat) : ∀ x ∈ mixL m b, x < 256 := mixN_bytes m b 4
theorem shL_bytes (b : List Nat) (h : ∀ x ∈ b, x < 256) (n : Nat) : ∀ x ∈ shL b n, x < 256 := by
  intro x hx
  simp only [shL, List.mem_map] at hx
  obtain ⟨i, _, rfl⟩ := hx
  rcases Nat.lt_or_ge (4 * ((i / 4 + n * (i % 4)) % 4) + i % 4) b.length with hl | hl
  · rw [List.getD_eq_getElem?_getD, List.getElem?_eq_getElem hl]
    exact h _ (List.getElem_mem _)
  · rw [List.getD_eq_getElem?_getD, List.getElem?_eq_none hl]
    simp
theorem map_sb_bytes (b : List Nat) : ∀ x ∈ b.map sb, x < 256 := by
  intro x hx
  simp only [List.mem_map] at hx
  obtain ⟨y, _, rfl⟩ := hx
  exact sb_lt y
theorem encF_blk (rk b : List Nat) (hr : rk.length = 240) (hrb : ∀ x ∈ rk, x < 256) (hb : b.length = 16) (hbb : ∀ x ∈ b, x < 256) (r : Nat) (h : r < 15) : (encF rk b r).length = 16 ∧ ∀ x ∈ encF rk b r, x < 256 := by
  cases r with
  | zero =>
    have hl := rkF_length rk hr 0 (by omega)
    exact ⟨by rw [encF, xorL_length _ _ (by omega)]; exact hb, xorL_bytes hbb (rkF_bytes rk hrb 0)⟩
  | succ r =>
    have hl := rkF_length rk hr (r + 1) h
    unfold encF
    split
    · exact ⟨by rw [xorL_length _ _ (by rw [mixL_length, hl]), mixL_length], xorL_bytes (mixL_bytes _ _) (rkF_bytes rk hrb _)⟩
    · exact ⟨by rw [xorL_length _ _ (by rw [shL_length, hl]), shL_length], xorL_bytes (shL_bytes _ (map_sb_bytes _) _) (rkF_bytes rk hrb _)⟩
end Nep
namespace Nep
theorem map_bk_bytes (b : List Nat) : ∀ x ∈ b.map bk, x < 256 := by
  intro x hx
  simp only [List.mem_map] at hx
  obtain ⟨y, _, rfl⟩ := hx
  exact bk_lt y
theorem decF_blk (rk b : List Nat) (hb : b.length = 16) (hbb : ∀ x ∈ b, x < 256) (j : Nat) : (decF rk b j).length = 16 ∧ ∀ x ∈ decF rk b j, x < 256 := by
  cases j with
  | zero => exact ⟨hb, hbb⟩
  | succ j => exact ⟨by rw [decF, List.length_map, shL_length], by rw [decF]; exact map_bk_bytes _⟩
end Nep
