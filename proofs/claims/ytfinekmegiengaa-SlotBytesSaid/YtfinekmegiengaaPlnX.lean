/- Plain laws of layer 9: a sector, each block xored with its mask, turned, and xored again. -/
import Derived.Test.YtfinekmegiengaaPlnC
namespace Nep
def blkAt (l : List Nat) (j : Nat) : List Nat := (l.drop (16 * j)).take 16
def xtsB (E : List Nat → List Nat) (m l : List Nat) (j : Nat) : List Nat := xorL (E (xorL (blkAt l j) (dblN m j))) (dblN m j)
def xtsN (E : List Nat → List Nat) (m l : List Nat) : Nat → List Nat
  | 0 => []
  | n + 1 => xtsN E m l n ++ xtsB E m l n
/-- what turns a block into a block -/
def Blocks (E : List Nat → List Nat) : Prop := ∀ x : List Nat, x.length = 16 → (∀ y ∈ x, y < 256) → (E x).length = 16 ∧ ∀ y ∈ E x, y < 256
theorem blkAt_blk {l : List Nat} {n j : Nat} (hl : l.length = 16 * n) (hb : ∀ y ∈ l, y < 256) (hj : j < n) : (blkAt l j).length = 16 ∧ ∀ y ∈ blkAt l j, y < 256 :=
  ⟨by rw [blkAt, List.length_take, List.length_drop]; omega, fun y hy => hb y (List.mem_of_mem_drop (List.mem_of_mem_take hy))⟩
theorem xtsB_blk {E : List Nat → List Nat} (hE : Blocks E) {m l : List Nat} {n j : Nat} (hm : m.length = 16) (hmb : ∀ y ∈ m, y < 256) (hl : l.length = 16 * n) (hb : ∀ y ∈ l, y < 256) (hj : j < n) :
    (xtsB E m l j).length = 16 ∧ ∀ y ∈ xtsB E m l j, y < 256 := by
  have h1 := blkAt_blk hl hb hj
  have h2 := dblN_blk m hm hmb j
  have h3 := hE (xorL (blkAt l j) (dblN m j)) (by rw [xorL_length _ _ (by rw [h1.1, h2.1])]; exact h1.1) (xorL_bytes h1.2 h2.2)
  exact ⟨by rw [xtsB, xorL_length _ _ (by rw [h3.1, h2.1])]; exact h3.1, xorL_bytes h3.2 h2.2⟩
theorem xtsN_blk {E : List Nat → List Nat} (hE : Blocks E) {m l : List Nat} {n : Nat} (hm : m.length = 16) (hmb : ∀ y ∈ m, y < 256) (hl : l.length = 16 * n) (hb : ∀ y ∈ l, y < 256) (j : Nat) (hj : j ≤ n) :
    (xtsN E m l j).length = 16 * j ∧ ∀ y ∈ xtsN E m l j, y < 256 := by
  induction j with
  | zero => exact ⟨rfl, fun y hy => by simp [xtsN] at hy⟩
  | succ j ih =>
    have h1 := ih (by omega)
    have h2 := xtsB_blk hE hm hmb hl hb (show j < n by omega)
    refine ⟨by rw [xtsN, List.length_append, h1.1, h2.1]; omega, fun y hy => ?_⟩
    rw [xtsN] at hy
    exact (List.mem_append.1 hy).elim (h1.2 y) (h2.2 y)
theorem xtsN_at {E : List Nat → List Nat} (hE : Blocks E) {m l : List Nat} {n : Nat} (hm : m.length = 16) (hmb : ∀ y ∈ m, y < 256) (hl : l.length = 16 * n) (hb : ∀ y ∈ l, y < 256) (k j : Nat) (hj : j < k) (hk : k ≤ n) :
    blkAt (xtsN E m l k) j = xtsB E m l j := by
  induction k with
  | zero => omega
  | succ k ih =>
    have h1 := xtsN_blk hE hm hmb hl hb k (by omega)
    have h2 := xtsB_blk hE hm hmb hl hb (show k < n by omega)
    unfold blkAt
    by_cases h : j < k
    · have h3 := ih h (by omega)
      unfold blkAt at h3
      rw [xtsN, List.drop_append, List.take_append, h3.symm]
      have e : (16 - (List.drop (16 * j) (xtsN E m l k)).length) = 0 := by rw [List.length_drop, h1.1]; omega
      rw [e, List.take_zero, List.append_nil]
    · obtain rfl : j = k := by omega
      rw [xtsN, List.drop_append, h1.1, Nat.sub_self, List.drop_zero, List.drop_eq_nil_of_le (by rw [h1.1]; exact Nat.le_refl _), List.nil_append, List.take_of_length_le (by rw [h2.1]; exact Nat.le_refl _)]
theorem blkAt_concat (l : List Nat) : ∀ n, l.length = 16 * n → ∀ k, k ≤ n → ∀ f : Nat → List Nat, (∀ j, j < k → f j = blkAt l j) → (List.range k).flatMap f = l.take (16 * k) := by
  intro n hl k
  induction k with
  | zero => intro _ f _; simp
  | succ k ih =>
    intro hk f hf
    rw [List.range_succ, List.flatMap_append, ih (by omega) f (fun j hj => hf j (by omega))]
    simp only [List.flatMap_cons, List.flatMap_nil, List.append_nil]
    rw [hf k (by omega), blkAt, show 16 * (k + 1) = 16 * k + 16 from by omega, List.take_add]
theorem xtsN_flat (E : List Nat → List Nat) (m l : List Nat) (n : Nat) : xtsN E m l n = (List.range n).flatMap (xtsB E m l) := by
  induction n with
  | zero => rfl
  | succ n ih => rw [xtsN, ih, List.range_succ, List.flatMap_append]; simp
/-- what one turning does another one undoes -/
theorem xts_back {E D : List Nat → List Nat} (hE : Blocks E) (hDE : ∀ x : List Nat, x.length = 16 → (∀ y ∈ x, y < 256) → D (E x) = x) {m l : List Nat} {n : Nat} (hm : m.length = 16) (hmb : ∀ y ∈ m, y < 256) (hl : l.length = 16 * n) (hb : ∀ y ∈ l, y < 256) :
    xtsN D m (xtsN E m l n) n = l := by
  have h := blkAt_concat l n hl n (Nat.le_refl _) (xtsB D m (xtsN E m l n)) (fun j hj => by
    have h1 := blkAt_blk hl hb hj
    have h2 := dblN_blk m hm hmb j
    have hx : (xorL (blkAt l j) (dblN m j)).length = 16 := by rw [xorL_length _ _ (by rw [h1.1, h2.1])]; exact h1.1
    have hxb := xorL_bytes h1.2 h2.2
    have h3 := hE _ hx hxb
    rw [xtsB, xtsN_at hE hm hmb hl hb n j hj (Nat.le_refl _), xtsB, xorL_self (by rw [h3.1, h2.1]), hDE _ hx hxb, xorL_self (by rw [h1.1, h2.1])])
  rw [xtsN_flat, h, List.take_of_length_le (by omega)]
/-- blocks that are alike become alike, and no others -/
theorem xts_alike {E : List Nat → List Nat} (hE : Blocks E) (hinj : ∀ x y : List Nat, x.length = 16 → (∀ z ∈ x, z < 256) → y.length = 16 → (∀ z ∈ y, z < 256) → E x = E y → x = y) {m a b : List Nat} {n k j : Nat} (hm : m.length = 16) (hmb : ∀ y ∈ m, y < 256)
    (ha : a.length = 16 * n) (hab : ∀ y ∈ a, y < 256) (hb : b.length = 16 * k) (hbb : ∀ y ∈ b, y < 256) (hjn : j < n) (hjk : j < k) :
    blkAt a j = blkAt b j ↔ blkAt (xtsN E m a n) j = blkAt (xtsN E m b k) j := by
  rw [xtsN_at hE hm hmb ha hab n j hjn (Nat.le_refl _), xtsN_at hE hm hmb hb hbb k j hjk (Nat.le_refl _)]
  have h1 := blkAt_blk ha hab hjn
  have h2 := blkAt_blk hb hbb hjk
  have hd := dblN_blk m hm hmb j
  have hx : (xorL (blkAt a j) (dblN m j)).length = 16 := by rw [xorL_length _ _ (by rw [h1.1, hd.1])]; exact h1.1
  have hy : (xorL (blkAt b j) (dblN m j)).length = 16 := by rw [xorL_length _ _ (by rw [h2.1, hd.1])]; exact h2.1
  have hxb := xorL_bytes h1.2 hd.2
  have hyb := xorL_bytes h2.2 hd.2
  constructor
  · intro h
    rw [xtsB, xtsB, h]
  · intro h
    unfold xtsB at h
    have e1 := congrArg (fun z => xorL z (dblN m j)) h
    rw [xorL_self (by rw [(hE _ hx hxb).1, hd.1]), xorL_self (by rw [(hE _ hy hyb).1, hd.1])] at e1
    have e2 := hinj _ _ hx hxb hy hyb e1
    have e3 := congrArg (fun z => xorL z (dblN m j)) e2
    rwa [xorL_self (by rw [h1.1, hd.1]), xorL_self (by rw [h2.1, hd.1])] at e3

/-- AES under a key, there and back -/
def encE (key x : List Nat) : List Nat := encF (flatL key) x 14
def decE (key x : List Nat) : List Nat := xorL (decF (flatL key) x 14) (rkF (flatL key) 0)
theorem encE_eq (key x : List Nat) (hk : key.length = 32) (hb : ∀ y ∈ key, y < 256) : encL key x = encE key x := by rw [encE, encF_eq key x hk hb]; rfl
theorem decE_eq (key x : List Nat) (hk : key.length = 32) (hb : ∀ y ∈ key, y < 256) : decL key x = decE key x := by rw [decE, decF_eq key x hk hb, rkF_eq key hk hb]; rfl
theorem encE_blocks (key : List Nat) (hk : key.length = 32) (hb : ∀ y ∈ key, y < 256) : Blocks (encE key) := fun x hx hxb => encF_blk _ x (flatL_length key hk hb) (flatL_bytes key hk hb) hx hxb 14 (by omega)
theorem decE_blocks (key : List Nat) (hk : key.length = 32) (hb : ∀ y ∈ key, y < 256) : Blocks (decE key) := fun x hx hxb => by
  have h := decF_blk (flatL key) x hx hxb 14
  have h2 := rkF_length (flatL key) (flatL_length key hk hb) 0 (by omega)
  exact ⟨by rw [decE, xorL_length _ _ (by rw [h.1, h2])]; exact h.1, xorL_bytes h.2 (rkF_bytes _ (flatL_bytes key hk hb) 0)⟩
theorem decE_encE (key : List Nat) (hk : key.length = 32) (hb : ∀ y ∈ key, y < 256) (x : List Nat) (hx : x.length = 16) (hxb : ∀ y ∈ x, y < 256) : decE key (encE key x) = x :=
  dec_enc_all _ x (flatL_length key hk hb) (flatL_bytes key hk hb) hx hxb
theorem encE_decE (key : List Nat) (hk : key.length = 32) (hb : ∀ y ∈ key, y < 256) (x : List Nat) (hx : x.length = 16) (hxb : ∀ y ∈ x, y < 256) : encE key (decE key x) = x :=
  enc_dec_all _ x (flatL_length key hk hb) (flatL_bytes key hk hb) hx hxb
theorem encE_inj (key : List Nat) (hk : key.length = 32) (hb : ∀ y ∈ key, y < 256) (x y : List Nat) (hx : x.length = 16) (hxb : ∀ z ∈ x, z < 256) (hy : y.length = 16) (hyb : ∀ z ∈ y, z < 256) (h : encE key x = encE key y) : x = y := by
  have := congrArg (decE key) h
  rwa [decE_encE key hk hb x hx hxb, decE_encE key hk hb y hy hyb] at this
end Nep
