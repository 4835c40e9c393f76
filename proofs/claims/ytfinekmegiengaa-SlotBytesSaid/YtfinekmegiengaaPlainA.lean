/- Plain laws on bytes: the multiplication of layer 5 and the bytes of layer 6, as functions of natural numbers; no program is in sight. -/
import Derived.Laws.BitsAllLaws
namespace Nep

def sboxL : List Nat :=
  [99, 124, 119, 123, 242, 107, 111, 197, 48, 1, 103, 43, 254, 215, 171, 118, 202, 130, 201, 125, 250, 89, 71, 240, 173, 212, 162, 175, 156, 164, 114, 192,
   183, 253, 147, 38, 54, 63, 247, 204, 52, 165, 229, 241, 113, 216, 49, 21, 4, 199, 35, 195, 24, 150, 5, 154, 7, 18, 128, 226, 235, 39, 178, 117,
   9, 131, 44, 26, 27, 110, 90, 160, 82, 59, 214, 179, 41, 227, 47, 132, 83, 209, 0, 237, 32, 252, 177, 91, 106, 203, 190, 57, 74, 76, 88, 207,
   208, 239, 170, 251, 67, 77, 51, 133, 69, 249, 2, 127, 80, 60, 159, 168, 81, 163, 64, 143, 146, 157, 56, 245, 188, 182, 218, 33, 16, 255, 243, 210,
   205, 12, 19, 236, 95, 151, 68, 23, 196, 167, 126, 61, 100, 93, 25, 115, 96, 129, 79, 220, 34, 42, 144, 136, 70, 238, 184, 20, 222, 94, 11, 219,
   224, 50, 58, 10, 73, 6, 36, 92, 194, 211, 172, 98, 145, 149, 228, 121, 231, 200, 55, 109, 141, 213, 78, 169, 108, 86, 244, 234, 101, 122, 174, 8,
   186, 120, 37, 46, 28, 166, 180, 198, 232, 221, 116, 31, 75, 189, 139, 138, 112, 62, 181, 102, 72, 3, 246, 14, 97, 53, 87, 185, 134, 193, 29, 158,
   225, 248, 152, 17, 105, 217, 142, 148, 155, 30, 135, 233, 206, 85, 40, 223, 140, 161, 137, 13, 191, 230, 66, 104, 65, 153, 45, 15, 176, 84, 187, 22]

def backL : List Nat :=
  [82, 9, 106, 213, 48, 54, 165, 56, 191, 64, 163, 158, 129, 243, 215, 251, 124, 227, 57, 130, 155, 47, 255, 135, 52, 142, 67, 68, 196, 222, 233, 203,
   84, 123, 148, 50, 166, 194, 35, 61, 238, 76, 149, 11, 66, 250, 195, 78, 8, 46, 161, 102, 40, 217, 36, 178, 118, 91, 162, 73, 109, 139, 209, 37,
   114, 248, 246, 100, 134, 104, 152, 22, 212, 164, 92, 204, 93, 101, 182, 146, 108, 112, 72, 80, 253, 237, 185, 218, 94, 21, 70, 87, 167, 141, 157, 132,
   144, 216, 171, 0, 140, 188, 211, 10, 247, 228, 88, 5, 184, 179, 69, 6, 208, 44, 30, 143, 202, 63, 15, 2, 193, 175, 189, 3, 1, 19, 138, 107,
   58, 145, 17, 65, 79, 103, 220, 234, 151, 242, 207, 206, 240, 180, 230, 115, 150, 172, 116, 34, 231, 173, 53, 133, 226, 249, 55, 232, 28, 117, 223, 110,
   71, 241, 26, 113, 29, 41, 197, 137, 111, 183, 98, 14, 170, 24, 190, 27, 252, 86, 62, 75, 198, 210, 121, 32, 154, 219, 192, 254, 120, 205, 90, 244,
   31, 221, 168, 51, 136, 7, 199, 49, 177, 18, 16, 89, 39, 128, 236, 95, 96, 81, 127, 169, 25, 181, 74, 13, 45, 229, 122, 159, 147, 201, 156, 239,
   160, 224, 59, 77, 174, 42, 245, 176, 200, 235, 187, 60, 131, 83, 153, 97, 23, 43, 4, 126, 186, 119, 214, 38, 225, 105, 20, 99, 85, 33, 12, 125]

def sb (a : Nat) : Nat := sboxL.getD a 0
def bk (a : Nat) : Nat := backL.getD a 0

def bitN (n i : Nat) : Nat := n / 2 ^ i % 2
def pw (i : Nat) : Nat := 2 ^ i
theorem bitN_lt (n i : Nat) : bitN n i < 2 := by unfold bitN; omega
theorem pw_succ (i : Nat) : pw (i + 1) = 2 * pw i := by unfold pw; rw [Nat.pow_succ]; omega
theorem pw_le (i j : Nat) (h : i ≤ j) : pw i ≤ pw j := Nat.pow_le_pow_right (by omega) h

/-- the product of polynomials after k bits -/
def mulA (a b : Nat) : Nat → Nat
  | 0 => 0
  | k + 1 => if bitN b k = 1 then mulA a b k ^^^ (a * pw k) else mulA a b k

/-- what is left of it after k steps -/
def redA (p : Nat) : Nat → Nat
  | 0 => p
  | k + 1 => if bitN (redA p k) (14 - k) = 1 then redA p k ^^^ (283 * pw (14 - k - 8)) else redA p k

theorem mulA_one {a b k : Nat} (h : bitN b k = 1) : mulA a b (k + 1) = mulA a b k ^^^ (a * pw k) := if_pos h
theorem mulA_nought {a b k : Nat} (h : ¬ bitN b k = 1) : mulA a b (k + 1) = mulA a b k := if_neg h
theorem redA_one {p k : Nat} (h : bitN (redA p k) (14 - k) = 1) : redA p (k + 1) = redA p k ^^^ (283 * pw (14 - k - 8)) := if_pos h
theorem redA_nought {p k : Nat} (h : ¬ bitN (redA p k) (14 - k) = 1) : redA p (k + 1) = redA p k := if_neg h

def rmul (a b : Nat) : Nat := redA (mulA a b 8) 7 % 256

theorem mulA_lt (a b k : Nat) (ha : a < 256) (hk : k ≤ 8) : mulA a b k < 65536 := by
  induction k with
  | zero => simp [mulA]
  | succ k ih =>
    have h2 : pw k ≤ pw 7 := pw_le _ _ (by omega)
    unfold mulA
    split
    · refine Nat.xor_lt_two_pow (n := 16) (ih (by omega)) ?_
      have h3 : a * pw k ≤ a * pw 7 := Nat.mul_le_mul_left _ h2
      have h4 : pw 7 = 128 := by decide
      rw [h4] at h3
      omega
    · exact ih (by omega)

theorem redA_lt (p k : Nat) (hp : p < 65536) (hk : k ≤ 7) : redA p k < 65536 := by
  induction k with
  | zero => exact hp
  | succ k ih =>
    have h2 : pw (14 - k - 8) ≤ pw 6 := pw_le _ _ (by omega)
    unfold redA
    split
    · refine Nat.xor_lt_two_pow (n := 16) (ih (by omega)) ?_
      have h4 : pw 6 = 64 := by decide
      rw [h4] at h2
      omega
    · exact ih (by omega)

theorem rmul_lt (a b : Nat) : rmul a b < 256 := by unfold rmul; omega

/-- the first number from b on, of n, whose product with a is 1 -/
def invF (a : Nat) : Nat → Nat → Nat
  | _, 0 => 0
  | b, n + 1 => if rmul a b = 1 then b else invF a (b + 1) n
def rinv (a : Nat) : Nat := invF a 1 255

/-- from k on it is to be looked for -/
structure InvFrom (a k : Nat) : Prop where
  eq : rinv a = invF a k (256 - k)
theorem InvFrom.first (a : Nat) : InvFrom a 1 := ⟨rfl⟩
theorem InvFrom.hit {a k : Nat} (h : InvFrom a k) (hk : k < 256) (h1 : rmul a k = 1) : rinv a = k := by
  rw [h.eq, show 256 - k = (255 - k) + 1 from by omega]; unfold invF; rw [if_pos h1]
theorem InvFrom.miss {a k : Nat} (h : InvFrom a k) (hk : k < 256) (h1 : ¬ rmul a k = 1) : InvFrom a (k + 1) := by
  refine ⟨?_⟩
  rw [h.eq, show 256 - k = (256 - (k + 1)) + 1 from by omega]
  conv => lhs; unfold invF
  rw [if_neg h1]
theorem InvFrom.none {a : Nat} (h : InvFrom a 256) : rinv a = 0 := by rw [h.eq]; rfl

theorem invF_lt (a : Nat) : ∀ (n b : Nat), b + n ≤ 256 → invF a b n < 256 := by
  intro n
  induction n with
  | zero => intro b _; simp [invF]
  | succ n ih =>
    intro b h
    unfold invF
    split
    · omega
    · exact ih (b + 1) (by omega)
theorem rinv_lt (a : Nat) : rinv a < 256 := invF_lt a 255 1 (by omega)

def bt8 (b i : Nat) : Nat := bitN b (i % 8)
def subBit (v i : Nat) : Nat := bt8 v i ^^^ bt8 v (i + 4) ^^^ bt8 v (i + 5) ^^^ bt8 v (i + 6) ^^^ bt8 v (i + 7) ^^^ bt8 99 i
/-- the sum of the first k bits -/
def subS (v : Nat) : Nat → Nat
  | 0 => 0
  | k + 1 => subS v k + pw k * subBit v k
theorem subS_succ (v k : Nat) : subS v (k + 1) = subS v k + pw k * subBit v k := rfl
def rsub (a : Nat) : Nat := subS (rinv a) 8 % 256

theorem bt8_lt (b i : Nat) : bt8 b i < 2 := bitN_lt _ _
theorem subBit_lt (v i : Nat) : subBit v i < 2 := by
  unfold subBit
  have x2 : ∀ {x y : Nat}, x < 2 → y < 2 → x ^^^ y < 2 := fun h k => Nat.xor_lt_two_pow (n := 1) h k
  exact x2 (x2 (x2 (x2 (x2 (bt8_lt _ _) (bt8_lt _ _)) (bt8_lt _ _)) (bt8_lt _ _)) (bt8_lt _ _)) (bt8_lt _ _)
theorem subS_lt (v k : Nat) : subS v k < pw k := by
  induction k with
  | zero => simp [subS, pw]
  | succ k ih =>
    have := subBit_lt v k
    unfold subS
    rw [pw_succ]
    have h : pw k * subBit v k ≤ pw k * 1 := Nat.mul_le_mul_left _ (by omega)
    omega

theorem sb_lt : ∀ a, sb a < 256 := by
  intro a
  by_cases h : a < 256
  · exact (by decide +kernel : ∀ a, a < 256 → sb a < 256) a h
  · have hl : sboxL.length = 256 := by decide +kernel
    have h0 : sb a = 0 := by unfold sb; rw [List.getD_eq_getElem?_getD, List.getElem?_eq_none (by omega)]; rfl
    omega
theorem bk_lt : ∀ a, bk a < 256 := by
  intro a
  by_cases h : a < 256
  · exact (by decide +kernel : ∀ a, a < 256 → bk a < 256) a h
  · have hl : backL.length = 256 := by decide +kernel
    have h0 : bk a = 0 := by unfold bk; rw [List.getD_eq_getElem?_getD, List.getElem?_eq_none (by omega)]; rfl
    omega
theorem bk_sb : ∀ a, a < 256 → bk (sb a) = a := by decide +kernel
theorem sb_bk : ∀ a, a < 256 → sb (bk a) = a := by decide +kernel
theorem sb_ne : ∀ a, a < 256 → sb a ≠ a := by decide +kernel
#print axioms sb_lt
end Nep
