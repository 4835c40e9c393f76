/- Layer 17, plain: slots and their bytes. -/
import Derived.Test.YtfinekmegiengaaPlnW
namespace Nep
theorem num_snoc (l : List Nat) (x : Nat) : num (l ++ [x]) = num l * 256 + x := by unfold num; rw [numF_append]; rfl
theorem num_big : ∀ (k n : Nat), n < 256 ^ k → num (big n k) = n
  | 0, n, h => by
    have h0 : n = 0 := by simp at h; exact h
    subst h0
    rfl
  | k + 1, n, h => by
    rw [big_snoc, num_snoc, num_big k (n / 256) (by rw [Nat.div_lt_iff_lt_mul (by omega), ← Nat.pow_succ]; exact h)]
    omega
/-- may a slot be? -/
def slotOk (u : Bool) (s : Int) (e c n : Nat) : Bool := if u then decide (1 ≤ s) && (decide (s ≤ 65535) && decide (n = 104)) else decide (s = 0) && (decide (e = 0) && (decide (c = 0) && decide (n = 0)))
def slotB (u : Bool) (s : Int) (e c : Nat) (l : List Nat) : List Nat := if u then [1, 0, 0, 0] ++ big s.toNat 4 ++ big e 8 ++ big c 8 ++ l else List.replicate 128 0
theorem slotOk_true {s : Int} {e c n : Nat} : slotOk true s e c n = true ↔ 1 ≤ s ∧ s ≤ 65535 ∧ n = 104 := by simp [slotOk]
theorem slotOk_false {s : Int} {e c n : Nat} : slotOk false s e c n = true ↔ s = 0 ∧ e = 0 ∧ c = 0 ∧ n = 0 := by simp [slotOk]
theorem slotB_length {u : Bool} {s : Int} {e c : Nat} {l : List Nat} (h : slotOk u s e c l.length = true) : (slotB u s e c l).length = 128 := by
  cases u
  · rfl
  · have h3 := (slotOk_true.1 h).2.2
    simp [slotB, big_length, h3]
theorem slotB_bytes {u : Bool} {s : Int} {e c : Nat} {l : List Nat} (hb : ∀ x ∈ l, x < 256) : ∀ x ∈ slotB u s e c l, x < 256 := by
  intro x hx
  cases u
  · rw [show slotB false s e c l = List.replicate 128 0 from rfl] at hx
    rw [List.eq_of_mem_replicate hx]; omega
  · rw [show slotB true s e c l = [1, 0, 0, 0] ++ big s.toNat 4 ++ big e 8 ++ big c 8 ++ l from rfl] at hx
    simp only [List.mem_append] at hx
    rcases hx with (((h | h) | h) | h) | h
    · simp at h; omega
    · exact big_bytes _ _ x h
    · exact big_bytes _ _ x h
    · exact big_bytes _ _ x h
    · exact hb x h
/-- the parts of a slot's bytes -/
theorem slotB_parts {s : Int} {e c : Nat} {l : List Nat} (hs0 : 0 ≤ s) (hs : s < 4294967296) (he : e < 18446744073709551616) (hc : c < 18446744073709551616) :
    (slotB true s e c l).take 4 = [1, 0, 0, 0] ∧ num (((slotB true s e c l).drop 4).take 4) = s.toNat ∧ num (((slotB true s e c l).drop 8).take 8) = e ∧ num (((slotB true s e c l).drop 16).take 8) = c ∧ (slotB true s e c l).drop 24 = l := by
  have e0 : slotB true s e c l = [1, 0, 0, 0] ++ (big s.toNat 4 ++ (big e 8 ++ (big c 8 ++ l))) := by simp [slotB]
  rw [e0]
  have d4 : ([1, 0, 0, 0] ++ (big s.toNat 4 ++ (big e 8 ++ (big c 8 ++ l)))).drop 4 = big s.toNat 4 ++ (big e 8 ++ (big c 8 ++ l)) := List.drop_left' rfl
  have d8 : ([1, 0, 0, 0] ++ (big s.toNat 4 ++ (big e 8 ++ (big c 8 ++ l)))).drop 8 = big e 8 ++ (big c 8 ++ l) := by
    rw [show 8 = 4 + 4 from rfl, ← List.drop_drop, d4, List.drop_left' (big_length _ _)]
  have d16 : ([1, 0, 0, 0] ++ (big s.toNat 4 ++ (big e 8 ++ (big c 8 ++ l)))).drop 16 = big c 8 ++ l := by
    rw [show 16 = 8 + 8 from rfl, ← List.drop_drop, d8, List.drop_left' (big_length _ _)]
  have d24 : ([1, 0, 0, 0] ++ (big s.toNat 4 ++ (big e 8 ++ (big c 8 ++ l)))).drop 24 = l := by
    rw [show 24 = 16 + 8 from rfl, ← List.drop_drop, d16, List.drop_left' (big_length _ _)]
  rw [d4, d8, d16, d24, List.take_left' (big_length _ _), List.take_left' (big_length _ _), List.take_left' (big_length _ _)]
  exact ⟨List.take_left' rfl, num_big 4 _ (by omega), num_big 8 _ he, num_big 8 _ hc, rfl⟩
/-- the head of a slot's bytes: is it a slot's? -/
theorem take4_num (b : List Nat) (hb : ∀ x ∈ b, x < 256) (hl : b.length = 128) : num (b.take 4) = 16777216 ↔ b.take 4 = [1, 0, 0, 0] := by
  constructor
  · intro h
    have h2 := big_num_len 4 (b.take 4) (by rw [List.length_take]; omega) (fun x hx => hb x (List.mem_of_mem_take hx))
    rw [h] at h2
    rw [← h2]
    rfl
  · intro h
    rw [h]
    rfl
/-- bytes that are a slot's, written again -/
theorem slotB_again (b : List Nat) (hb : ∀ x ∈ b, x < 256) (hl : b.length = 128) :
    slotB true ((num ((b.drop 4).take 4) : Nat) : Int) (num ((b.drop 8).take 8)) (num ((b.drop 16).take 8)) (b.drop 24) = [1, 0, 0, 0] ++ b.drop 4 := by
  have hd : ∀ (i k : Nat), ∀ x ∈ (b.drop i).take k, x < 256 := fun i k x hx => hb x (List.mem_of_mem_drop (List.mem_of_mem_take hx))
  have l1 : ((b.drop 4).take 4).length = 4 := by rw [List.length_take, List.length_drop]; omega
  have l2 : ((b.drop 8).take 8).length = 8 := by rw [List.length_take, List.length_drop]; omega
  have l3 : ((b.drop 16).take 8).length = 8 := by rw [List.length_take, List.length_drop]; omega
  have p1 : (b.drop 16).take 8 ++ b.drop 24 = b.drop 16 := by
    have h := List.take_append_drop 8 (b.drop 16)
    rwa [List.drop_drop] at h
  have p2 : (b.drop 8).take 8 ++ b.drop 16 = b.drop 8 := by
    have h := List.take_append_drop 8 (b.drop 8)
    rwa [List.drop_drop] at h
  have p3 : (b.drop 4).take 4 ++ b.drop 8 = b.drop 4 := by
    have h := List.take_append_drop 4 (b.drop 4)
    rwa [List.drop_drop] at h
  rw [show slotB true ((num ((b.drop 4).take 4) : Nat) : Int) (num ((b.drop 8).take 8)) (num ((b.drop 16).take 8)) (b.drop 24) = [1, 0, 0, 0] ++ big (num ((b.drop 4).take 4)) 4 ++ big (num ((b.drop 8).take 8)) 8 ++ big (num ((b.drop 16).take 8)) 8 ++ b.drop 24 from by simp [slotB]]
  rw [big_num_len 4 _ l1 (hd _ _), big_num_len 8 _ l2 (hd _ _), big_num_len 8 _ l3 (hd _ _)]
  simp only [List.append_assoc]
  rw [p1, p2, p3]
theorem slotB_again' (b : List Nat) (hb : ∀ x ∈ b, x < 256) (hl : b.length = 128) (h : b.take 4 = [1, 0, 0, 0]) :
    slotB true ((num ((b.drop 4).take 4) : Nat) : Int) (num ((b.drop 8).take 8)) (num ((b.drop 16).take 8)) (b.drop 24) = b := by
  rw [slotB_again b hb hl, ← h, List.take_append_drop]
theorem slotB_not (b : List Nat) (hb : ∀ x ∈ b, x < 256) (hl : b.length = 128) (h : b.take 4 ≠ [1, 0, 0, 0]) :
    slotB true ((num ((b.drop 4).take 4) : Nat) : Int) (num ((b.drop 8).take 8)) (num ((b.drop 16).take 8)) (b.drop 24) ≠ b := by
  rw [slotB_again b hb hl]
  intro he
  apply h
  rw [← he]
  exact List.take_left' rfl
end Nep
