/- Plain laws of layer 7: words, one behind the other. -/
import Derived.Test.YtfinekmegiengaaPlainD
namespace Nep
/-- all rounds' keys, one behind the other -/
def flatL (key : List Nat) : List Nat := (expL key 60).flatten
theorem flatten_take (W : List (List Nat)) (hW : ∀ x ∈ W, x.length = 4) : ∀ n, (W.flatten).take (4 * n) = (W.take n).flatten := by
  induction W with
  | nil => intro n; simp
  | cons x W ih =>
    intro n
    cases n with
    | zero => simp
    | succ n =>
      have hx := hW x (by simp)
      rw [List.flatten_cons, List.take_succ_cons, List.flatten_cons, List.take_append, show 4 * (n + 1) - x.length = 4 * n from by omega, ih (fun y hy => hW y (by simp [hy])) n, List.take_of_length_le (by omega)]
theorem flatten_drop (W : List (List Nat)) (hW : ∀ x ∈ W, x.length = 4) : ∀ n, (W.flatten).drop (4 * n) = (W.drop n).flatten := by
  induction W with
  | nil => intro n; simp
  | cons x W ih =>
    intro n
    cases n with
    | zero => simp
    | succ n =>
      have hx := hW x (by simp)
      rw [List.flatten_cons, List.drop_succ_cons, List.drop_append, show 4 * (n + 1) - x.length = 4 * n from by omega, ih (fun y hy => hW y (by simp [hy])) n, List.drop_eq_nil_of_le (by omega), List.nil_append]
theorem flatten_length (W : List (List Nat)) (hW : ∀ x ∈ W, x.length = 4) : W.flatten.length = 4 * W.length := by
  induction W with
  | nil => rfl
  | cons x W ih =>
    have hx := hW x (by simp)
    simp [ih (fun y hy => hW y (by simp [hy])), hx]
    omega
theorem exp4 (key : List Nat) (hk : key.length = 32) (hb : ∀ x ∈ key, x < 256) : ∀ x ∈ expL key 60, x.length = 4 := fun x hx => (expL_word key hk hb 60 (by omega) x hx).1
theorem flatL_length (key : List Nat) (hk : key.length = 32) (hb : ∀ x ∈ key, x < 256) : (flatL key).length = 240 := by
  unfold flatL
  rw [flatten_length _ (exp4 key hk hb), expL_length]
theorem flatL_bytes (key : List Nat) (hk : key.length = 32) (hb : ∀ x ∈ key, x < 256) : ∀ x ∈ flatL key, x < 256 := by
  intro x hx
  obtain ⟨y, hy, hx⟩ := List.mem_flatten.1 hx
  exact (expL_word key hk hb 60 (by omega) y hy).2 x hx
/-- a round's key out of them -/
theorem rkL_flat (key : List Nat) (hk : key.length = 32) (hb : ∀ x ∈ key, x < 256) (r : Nat) : rkL (expL key 60) r = ((flatL key).drop (16 * r)).take 16 := by
  have h4 := exp4 key hk hb
  unfold rkL flatL
  rw [show 16 * r = 4 * (4 * r) from by omega, flatten_drop _ h4, show (16 : Nat) = 4 * 4 from rfl, flatten_take _ (fun x hx => h4 x (List.mem_of_mem_drop hx))]
theorem flatten_step (W : List (List Nat)) (h4 : ∀ x ∈ W, x.length = 4) (a j : Nat) (hj : a + j < W.length) :
    (W.flatten.drop (4 * a)).take (4 * (j + 1)) = (W.flatten.drop (4 * a)).take (4 * j) ++ W.getD (a + j) [] := by
  have h4' : ∀ x ∈ W.drop a, x.length = 4 := fun x hx => h4 x (List.mem_of_mem_drop hx)
  rw [flatten_drop _ h4, flatten_take _ h4', flatten_take _ h4']
  have hl : j < (W.drop a).length := by rw [List.length_drop]; omega
  rw [List.take_succ_eq_append_getElem hl, List.flatten_append]
  congr 1
  simp [List.getElem?_eq_getElem hj]
theorem flat_step (key : List Nat) (hk : key.length = 32) (hb : ∀ x ∈ key, x < 256) (r j : Nat) (hj : 4 * r + j < 60) :
    ((flatL key).drop (16 * r)).take (4 * (j + 1)) = ((flatL key).drop (16 * r)).take (4 * j) ++ (expL key 60).getD (4 * r + j) [] := by
  have h := flatten_step (expL key 60) (exp4 key hk hb) (4 * r) j (by rw [expL_length]; exact hj)
  rw [show 4 * (4 * r) = 16 * r from by omega] at h
  exact h
theorem big_num {x : List Nat} (h : Word4 x) : big (num x) 4 = x := by
  obtain ⟨a, b, c, d, rfl⟩ := four h.1
  exact big4 a b c d (h.2 a (by simp)) (h.2 b (by simp)) (h.2 c (by simp)) (h.2 d (by simp))
theorem flat_take_step (key : List Nat) (r : Nat) : (flatL key).take (16 * (r + 1)) = (flatL key).take (16 * r) ++ ((flatL key).drop (16 * r)).take 16 := by
  rw [show 16 * (r + 1) = 16 * r + 16 from by omega, List.take_add]
end Nep
