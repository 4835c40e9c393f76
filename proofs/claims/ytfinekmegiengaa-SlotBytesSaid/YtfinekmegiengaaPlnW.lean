/- Plain laws of layer 10: wrapping and unwrapping, step by step, there and back. -/
import Derived.Test.YtfinekmegiengaaPlnX
namespace Nep
/-- eight bytes, xored with a number -/
def mix8 (a : List Nat) (n : Nat) : List Nat := xorL a (big n 8)
theorem xor_byte (x y i : Nat) : (x ^^^ y) / 256 ^ i % 256 = (x / 256 ^ i % 256) ^^^ (y / 256 ^ i % 256) := by
  have e : (256 : Nat) ^ i = 2 ^ (8 * i) := by rw [Nat.pow_mul]
  rw [e, show (256 : Nat) = 2 ^ 8 from rfl, ← Nat.shiftRight_eq_div_pow, ← Nat.shiftRight_eq_div_pow, ← Nat.shiftRight_eq_div_pow, Nat.shiftRight_xor_distrib, Nat.xor_mod_two_pow]
theorem big_xor (x y k : Nat) : big (x ^^^ y) k = xorL (big x k) (big y k) := by
  unfold big xorL
  rw [List.zipWith_map, List.zipWith_self]
  exact List.map_congr_left fun i _ => xor_byte x y _
theorem big_snoc (n k : Nat) : big n (k + 1) = big (n / 256) k ++ [n % 256] := by
  unfold big
  rw [List.range_succ, List.map_append]
  congr 1
  · apply List.map_congr_left
    intro i hi
    have := List.mem_range.1 hi
    rw [show k + 1 - 1 - i = (k - 1 - i) + 1 from by omega, Nat.pow_succ, Nat.mul_comm, ← Nat.div_div_eq_div_mul]
  · simp
theorem big_num_len : ∀ (n : Nat) (l : List Nat), l.length = n → (∀ x ∈ l, x < 256) → big (num l) n = l := by
  intro n
  induction n with
  | zero => intro l hl _; obtain rfl := List.eq_nil_of_length_eq_zero hl; rfl
  | succ n ih =>
    intro l hl hb
    have hne : l ≠ [] := by intro h; subst h; simp at hl
    have hcat := List.dropLast_concat_getLast hne
    obtain ⟨d, hd⟩ : ∃ d, d = l.dropLast := ⟨_, rfl⟩
    obtain ⟨x, hx⟩ : ∃ x, x = l.getLast hne := ⟨_, rfl⟩
    rw [← hd, ← hx] at hcat
    have hdl : d.length = n := by rw [hd, List.length_dropLast, hl]; omega
    have hdb : ∀ y ∈ d, y < 256 := fun y hy => hb y (by rw [← hcat]; simp [hy])
    have hx8 : x < 256 := hb x (by rw [← hcat]; simp)
    have e : num l = num d * 256 + x := by rw [← hcat, num, numF_append]; rfl
    rw [big_snoc, e, show (num d * 256 + x) / 256 = num d from by omega, show (num d * 256 + x) % 256 = x from by omega, ih d hdl hdb, hcat]
theorem big_num_all (l : List Nat) (hb : ∀ x ∈ l, x < 256) : big (num l) l.length = l := big_num_len _ l rfl hb
theorem mix8_big (a : List Nat) (n : Nat) (hl : a.length = 8) (hb : ∀ x ∈ a, x < 256) : big (num a ^^^ n) 8 = mix8 a n := by
  have h := big_num_all a hb
  rw [hl] at h
  rw [big_xor, h]; rfl
theorem mix8_blk (a : List Nat) (n : Nat) (hl : a.length = 8) (hb : ∀ x ∈ a, x < 256) : (mix8 a n).length = 8 ∧ ∀ x ∈ mix8 a n, x < 256 :=
  ⟨by rw [mix8, xorL_length _ _ (by rw [big_length, hl])]; exact hl, xorL_bytes hb (big_bytes n 8)⟩
theorem mix8_mix8 (a : List Nat) (n : Nat) (hl : a.length = 8) : mix8 (mix8 a n) n = a := xorL_self (by rw [big_length, hl])

/-- eight bytes -/
def Oct (x : List Nat) : Prop := x.length = 8 ∧ ∀ y ∈ x, y < 256
def AllOct (r : List (List Nat)) : Prop := ∀ x ∈ r, Oct x
theorem AllOct.get {r : List (List Nat)} (h : AllOct r) {i : Nat} (hi : i < r.length) : Oct (r.getD i []) := by
  rw [List.getD_eq_getElem?_getD, List.getElem?_eq_getElem hi]; exact h _ (List.getElem_mem hi)
theorem AllOct.set {r : List (List Nat)} (h : AllOct r) (i : Nat) {x : List Nat} (hx : Oct x) : AllOct (r.set i x) := fun y hy => by
  rcases List.mem_or_eq_of_mem_set hy with h1 | rfl
  · exact h y h1
  · exact hx
theorem Oct.app {a b : List Nat} (ha : Oct a) (hb : Oct b) : (a ++ b).length = 16 ∧ ∀ y ∈ a ++ b, y < 256 :=
  ⟨by rw [List.length_append, ha.1, hb.1], fun y hy => (List.mem_append.1 hy).elim (ha.2 y) (hb.2 y)⟩
theorem oct_take {x : List Nat} (hl : x.length = 16) (hb : ∀ y ∈ x, y < 256) : Oct (x.take 8) := ⟨by rw [List.length_take]; omega, fun y hy => hb y (List.mem_of_mem_take hy)⟩
theorem oct_drop {x : List Nat} (hl : x.length = 16) (hb : ∀ y ∈ x, y < 256) : Oct (x.drop 8) := ⟨by rw [List.length_drop]; omega, fun y hy => hb y (List.mem_of_mem_drop hy)⟩

def wrapX (E : List Nat → List Nat) (i : Nat) (p : List Nat × List (List Nat)) : List Nat := E (p.1 ++ p.2.getD i [])
def wrapStep (E : List Nat → List Nat) (t i : Nat) (p : List Nat × List (List Nat)) : List Nat × List (List Nat) := (mix8 ((wrapX E i p).take 8) t, p.2.set i ((wrapX E i p).drop 8))
def wrapAR (E : List Nat → List Nat) (n : Nat) (p : List Nat × List (List Nat)) : Nat → List Nat × List (List Nat)
  | 0 => p
  | t + 1 => wrapStep E (t + 1) (t % n) (wrapAR E n p t)
def unX (D : List Nat → List Nat) (t i : Nat) (p : List Nat × List (List Nat)) : List Nat := D (mix8 p.1 t ++ p.2.getD i [])
def unStep (D : List Nat → List Nat) (t i : Nat) (p : List Nat × List (List Nat)) : List Nat × List (List Nat) := ((unX D t i p).take 8, p.2.set i ((unX D t i p).drop 8))
/-- the first k steps back, of m -/
def unAR (D : List Nat → List Nat) (n m : Nat) (p : List Nat × List (List Nat)) : Nat → List Nat × List (List Nat)
  | 0 => p
  | k + 1 => unStep D (m - k) ((m - k - 1) % n) (unAR D n m p k)
/-- a state: eight bytes, and n times eight -/
def St (n : Nat) (p : List Nat × List (List Nat)) : Prop := Oct p.1 ∧ p.2.length = n ∧ AllOct p.2
theorem wrapX_blk {E : List Nat → List Nat} (hE : Blocks E) {n i : Nat} {p : List Nat × List (List Nat)} (h : St n p) (hi : i < n) : (wrapX E i p).length = 16 ∧ ∀ y ∈ wrapX E i p, y < 256 := by
  obtain ⟨h1, h2, h3⟩ := h
  have h4 := h1.app (h3.get (show i < p.2.length by omega))
  exact hE _ h4.1 h4.2
theorem wrapStep_st {E : List Nat → List Nat} (hE : Blocks E) {n t i : Nat} {p : List Nat × List (List Nat)} (h : St n p) (hi : i < n) : St n (wrapStep E t i p) := by
  have hx := wrapX_blk hE h hi
  obtain ⟨h1, h2, h3⟩ := h
  have ha := oct_take hx.1 hx.2
  exact ⟨mix8_blk _ _ ha.1 ha.2, by simp [wrapStep, h2], h3.set _ (oct_drop hx.1 hx.2)⟩
theorem wrapAR_st {E : List Nat → List Nat} (hE : Blocks E) {n : Nat} (hn : 0 < n) {p : List Nat × List (List Nat)} (h : St n p) (t : Nat) : St n (wrapAR E n p t) := by
  induction t with
  | zero => exact h
  | succ t ih => exact wrapStep_st hE ih (Nat.mod_lt _ hn)
theorem unX_blk {D : List Nat → List Nat} (hD : Blocks D) {n t i : Nat} {p : List Nat × List (List Nat)} (h : St n p) (hi : i < n) : (unX D t i p).length = 16 ∧ ∀ y ∈ unX D t i p, y < 256 := by
  obtain ⟨h1, h2, h3⟩ := h
  have h4 := Oct.app (mix8_blk _ t h1.1 h1.2) (h3.get (show i < p.2.length by omega))
  exact hD _ h4.1 h4.2
theorem unStep_st {D : List Nat → List Nat} (hD : Blocks D) {n t i : Nat} {p : List Nat × List (List Nat)} (h : St n p) (hi : i < n) : St n (unStep D t i p) := by
  have hx := unX_blk hD (t := t) h hi
  obtain ⟨h1, h2, h3⟩ := h
  exact ⟨oct_take hx.1 hx.2, by simp [unStep, h2], h3.set _ (oct_drop hx.1 hx.2)⟩
theorem unAR_st {D : List Nat → List Nat} (hD : Blocks D) {n m : Nat} (hn : 0 < n) {p : List Nat × List (List Nat)} (h : St n p) (k : Nat) : St n (unAR D n m p k) := by
  induction k with
  | zero => exact h
  | succ k ih => exact unStep_st hD ih (Nat.mod_lt _ hn)
theorem set_getD_self (r : List (List Nat)) (i : Nat) (x y : List Nat) (hi : i < r.length) (hy : y = r.getD i []) : (r.set i x).set i y = r := by
  rw [List.set_set, hy, List.getD_eq_getElem?_getD, List.getElem?_eq_getElem hi, Option.getD_some, List.set_getElem_self]
theorem getD_set_same (r : List (List Nat)) (i : Nat) (x : List Nat) (hi : i < r.length) : (r.set i x).getD i [] = x := by
  simp [hi]
theorem un_wrap {E D : List Nat → List Nat} (hE : Blocks E) (hDE : ∀ x : List Nat, x.length = 16 → (∀ y ∈ x, y < 256) → D (E x) = x) {n t i : Nat} {p : List Nat × List (List Nat)} (h : St n p) (hi : i < n) : unStep D t i (wrapStep E t i p) = p := by
  have hx := wrapX_blk hE h hi
  obtain ⟨h1, h2, h3⟩ := h
  have hir : i < p.2.length := by omega
  have hz := h1.app (h3.get hir)
  have e : unX D t i (wrapStep E t i p) = p.1 ++ p.2.getD i [] := by
    unfold unX wrapStep
    simp only
    rw [mix8_mix8 _ _ (oct_take hx.1 hx.2).1, getD_set_same _ _ _ hir, List.take_append_drop]
    exact hDE _ hz.1 hz.2
  unfold unStep
  rw [e, List.take_left' h1.1, List.drop_left' h1.1]
  unfold wrapStep
  simp only
  rw [set_getD_self _ _ _ _ hir rfl]
theorem wrap_un {E D : List Nat → List Nat} (hD : Blocks D) (hED : ∀ x : List Nat, x.length = 16 → (∀ y ∈ x, y < 256) → E (D x) = x) {n t i : Nat} {p : List Nat × List (List Nat)} (h : St n p) (hi : i < n) : wrapStep E t i (unStep D t i p) = p := by
  have hx := unX_blk hD (t := t) h hi
  obtain ⟨h1, h2, h3⟩ := h
  have hir : i < p.2.length := by omega
  have hm := mix8_blk p.1 t h1.1 h1.2
  have hz := Oct.app hm (h3.get hir)
  have e : wrapX E i (unStep D t i p) = mix8 p.1 t ++ p.2.getD i [] := by
    unfold wrapX unStep
    simp only
    rw [getD_set_same _ _ _ hir, List.take_append_drop]
    exact hED _ hz.1 hz.2
  unfold wrapStep
  rw [e, List.take_left' hm.1, List.drop_left' hm.1, mix8_mix8 _ _ h1.1]
  unfold unStep
  simp only
  rw [set_getD_self _ _ _ _ hir rfl]
theorem un_wrap_all {E D : List Nat → List Nat} (hE : Blocks E) (hDE : ∀ x : List Nat, x.length = 16 → (∀ y ∈ x, y < 256) → D (E x) = x) {n m : Nat} (hn : 0 < n) {p : List Nat × List (List Nat)} (h : St n p) (k : Nat) (hk : k ≤ m) : unAR D n m (wrapAR E n p m) k = wrapAR E n p (m - k) := by
  induction k with
  | zero => rfl
  | succ k ih =>
    rw [unAR, ih (by omega), show m - k = (m - (k + 1)) + 1 from by omega, wrapAR, Nat.add_sub_cancel]
    exact un_wrap hE hDE (wrapAR_st hE hn h _) (Nat.mod_lt _ hn)
theorem wrap_un_all {E D : List Nat → List Nat} (hD : Blocks D) (hED : ∀ x : List Nat, x.length = 16 → (∀ y ∈ x, y < 256) → E (D x) = x) {n m : Nat} (hn : 0 < n) {p : List Nat × List (List Nat)} (h : St n p) (t : Nat) (ht : t ≤ m) : wrapAR E n (unAR D n m p m) t = unAR D n m p (m - t) := by
  induction t with
  | zero => rfl
  | succ t ih =>
    rw [wrapAR, ih (by omega), show m - t = (m - (t + 1)) + 1 from by omega, unAR, show m - (m - (t + 1)) = t + 1 from by omega, Nat.add_sub_cancel]
    exact wrap_un hD hED (unAR_st hD hn h _) (Nat.mod_lt _ hn)

/-- by eight -/
def parts8 (l : List Nat) (n : Nat) : List (List Nat) := (List.range n).map fun k => (l.drop (8 * k)).take 8
theorem parts8_length (l : List Nat) (n : Nat) : (parts8 l n).length = n := by simp [parts8]
theorem parts8_snoc (l : List Nat) (n : Nat) : parts8 l (n + 1) = parts8 l n ++ [(l.drop (8 * n)).take 8] := by simp [parts8, List.range_succ]
theorem parts8_oct {l : List Nat} {n : Nat} (hl : l.length = 8 * n) (hb : ∀ y ∈ l, y < 256) : AllOct (parts8 l n) := by
  intro x hx
  simp only [parts8, List.mem_map] at hx
  obtain ⟨k, hk, rfl⟩ := hx
  have := List.mem_range.1 hk
  exact ⟨by rw [List.length_take, List.length_drop]; omega, fun y hy => hb y (List.mem_of_mem_drop (List.mem_of_mem_take hy))⟩
theorem parts8_flatten (l : List Nat) (n : Nat) : (parts8 l n).flatten = l.take (8 * n) := by
  induction n with
  | zero => simp [parts8]
  | succ n ih => rw [parts8_snoc, List.flatten_append, ih, show 8 * (n + 1) = 8 * n + 8 from by omega, List.take_add]; simp
def flatP (p : List Nat × List (List Nat)) : List Nat := p.1 ++ p.2.flatten
theorem flat8_length {r : List (List Nat)} (h : AllOct r) : r.flatten.length = 8 * r.length := by
  induction r with
  | nil => rfl
  | cons x r ih =>
    have hx := h x (by simp)
    simp [ih (fun y hy => h y (by simp [hy])), hx.1]
    omega
theorem flat8_at {r : List (List Nat)} (h : AllOct r) (i : Nat) (hi : i < r.length) : (r.flatten.drop (8 * i)).take 8 = r.getD i [] := by
  induction r generalizing i with
  | nil => simp at hi
  | cons x r ih =>
    have hx := h x (by simp)
    have hx1 := hx.1
    cases i with
    | zero => simp [hx.1]
    | succ i =>
      have := ih (fun y hy => h y (by simp [hy])) i (by simpa using hi)
      rw [List.flatten_cons, List.drop_append, List.drop_eq_nil_of_le (by omega), List.nil_append, hx.1, show 8 * (i + 1) - 8 = 8 * i from by omega, this]
      rfl
theorem flat8_set {r : List (List Nat)} (h : AllOct r) (i : Nat) (hi : i < r.length) (y : List Nat) : (r.set i y).flatten = r.flatten.take (8 * i) ++ (y ++ r.flatten.drop (8 * i + 8)) := by
  induction r generalizing i with
  | nil => simp at hi
  | cons x r ih =>
    have hx := h x (by simp)
    have hx1 := hx.1
    cases i with
    | zero =>
      simp only [List.set_cons_zero, List.flatten_cons, Nat.mul_zero, List.take_zero, List.nil_append, Nat.zero_add]
      rw [List.drop_append, List.drop_eq_nil_of_le (by omega), hx.1]
      simp
    | succ i =>
      have := ih (fun y hy => h y (by simp [hy])) i (by simpa using hi)
      simp only [List.set_cons_succ, List.flatten_cons]
      have t1 : (x ++ r.flatten).take (8 * (i + 1)) = x ++ r.flatten.take (8 * i) := by
        rw [List.take_append, List.take_of_length_le (by omega), hx1, show 8 * (i + 1) - 8 = 8 * i from by omega]
      have t2 : (x ++ r.flatten).drop (8 * (i + 1) + 8) = r.flatten.drop (8 * i + 8) := by
        rw [List.drop_append, List.drop_eq_nil_of_le (by omega), List.nil_append, hx1, show 8 * (i + 1) + 8 - 8 = 8 * i + 8 from by omega]
      rw [this, t1, t2, List.append_assoc]
/-- one step on the flat bytes -/
def refX (E : List Nat → List Nat) (i : Nat) (s : List Nat) : List Nat := E (s.take 8 ++ (s.drop (8 * (i + 1))).take 8)
theorem refX_eq (E : List Nat → List Nat) {n i : Nat} {p : List Nat × List (List Nat)} (h : St n p) (hi : i < n) : refX E i (flatP p) = wrapX E i p := by
  obtain ⟨h1, h2, h3⟩ := h
  unfold refX wrapX flatP
  rw [List.take_left' h1.1, List.drop_append, List.drop_eq_nil_of_le (by rw [h1.1]; omega), List.nil_append, h1.1, show 8 * (i + 1) - 8 = 8 * i from by omega, flat8_at h3 i (by omega)]
def refWrap (E : List Nat → List Nat) (t i : Nat) (s : List Nat) : List Nat := mix8 ((refX E i s).take 8) t ++ (s.take (8 * (i + 1))).drop 8 ++ (refX E i s).drop 8 ++ s.drop (8 * (i + 1) + 8)
theorem flatP_mid {n : Nat} (i : Nat) {p : List Nat × List (List Nat)} (h : St n p) : ((flatP p).take (8 * (i + 1))).drop 8 = p.2.flatten.take (8 * i) ∧ (flatP p).drop (8 * (i + 1) + 8) = p.2.flatten.drop (8 * i + 8) := by
  obtain ⟨h1, h2, h3⟩ := h
  unfold flatP
  constructor
  · rw [List.take_append, List.take_of_length_le (by rw [h1.1]; omega), h1.1, List.drop_append, List.drop_eq_nil_of_le (by rw [h1.1]; exact Nat.le_refl _), List.nil_append, h1.1, Nat.sub_self, List.drop_zero, show 8 * (i + 1) - 8 = 8 * i from by omega]
  · rw [List.drop_append, List.drop_eq_nil_of_le (by rw [h1.1]; omega), List.nil_append, h1.1, show 8 * (i + 1) + 8 - 8 = 8 * i + 8 from by omega]
theorem refWrap_eq (E : List Nat → List Nat) {n t i : Nat} {p : List Nat × List (List Nat)} (h : St n p) (hi : i < n) : refWrap E t i (flatP p) = flatP (wrapStep E t i p) := by
  have hm := flatP_mid i h
  unfold refWrap
  rw [refX_eq E h hi, hm.1, hm.2]
  obtain ⟨h1, h2, h3⟩ := h
  unfold wrapStep flatP
  simp only
  rw [flat8_set h3 i (by omega)]
  simp [List.append_assoc]
def refUX (D : List Nat → List Nat) (t i : Nat) (s : List Nat) : List Nat := D (mix8 (s.take 8) t ++ (s.drop (8 * (i + 1))).take 8)
theorem refUX_eq (D : List Nat → List Nat) {n t i : Nat} {p : List Nat × List (List Nat)} (h : St n p) (hi : i < n) : refUX D t i (flatP p) = unX D t i p := by
  obtain ⟨h1, h2, h3⟩ := h
  unfold refUX unX flatP
  rw [List.take_left' h1.1, List.drop_append, List.drop_eq_nil_of_le (by rw [h1.1]; omega), List.nil_append, h1.1, show 8 * (i + 1) - 8 = 8 * i from by omega, flat8_at h3 i (by omega)]
def refUn (D : List Nat → List Nat) (t i : Nat) (s : List Nat) : List Nat := (refUX D t i s).take 8 ++ (s.take (8 * (i + 1))).drop 8 ++ (refUX D t i s).drop 8 ++ s.drop (8 * (i + 1) + 8)
theorem refUn_eq (D : List Nat → List Nat) {n t i : Nat} {p : List Nat × List (List Nat)} (h : St n p) (hi : i < n) : refUn D t i (flatP p) = flatP (unStep D t i p) := by
  have hm := flatP_mid i h
  unfold refUn
  rw [refUX_eq D h hi, hm.1, hm.2]
  obtain ⟨h1, h2, h3⟩ := h
  unfold unStep flatP
  simp only
  rw [flat8_set h3 i (by omega)]
  simp [List.append_assoc]
theorem flatP_length {n : Nat} {p : List Nat × List (List Nat)} (h : St n p) : (flatP p).length = 8 * (n + 1) := by
  obtain ⟨h1, h2, h3⟩ := h
  rw [flatP, List.length_append, h1.1, flat8_length h3, h2]; omega
theorem flatP_bytes {n : Nat} {p : List Nat × List (List Nat)} (h : St n p) : ∀ y ∈ flatP p, y < 256 := by
  obtain ⟨h1, h2, h3⟩ := h
  intro y hy
  rcases List.mem_append.1 hy with hy | hy
  · exact h1.2 y hy
  · obtain ⟨x, hx, hy⟩ := List.mem_flatten.1 hy
    exact (h3 x hx).2 y hy
/-- the first bytes -/
def ivA : List Nat := List.replicate 8 166
theorem ivA_oct : Oct ivA := ⟨by simp [ivA], fun y hy => by rw [ivA] at hy; rw [List.eq_of_mem_replicate hy]; omega⟩
theorem st_parts {l : List Nat} {n : Nat} (hl : l.length = 8 * n) (hb : ∀ y ∈ l, y < 256) {a : List Nat} (ha : Oct a) : St n (a, parts8 l n) := ⟨ha, parts8_length _ _, parts8_oct hl hb⟩
theorem flatP_parts {l : List Nat} {n : Nat} (hl : l.length = 8 * n) (a : List Nat) : flatP (a, parts8 l n) = a ++ l := by
  rw [flatP, parts8_flatten, List.take_of_length_le (by omega)]
theorem parts8_flat {r : List (List Nat)} (h : AllOct r) : parts8 r.flatten r.length = r := by
  apply List.ext_getElem (by rw [parts8_length])
  intro i h1 h2
  simp only [parts8, List.getElem_map, List.getElem_range]
  rw [flat8_at h i h2]
  simp [List.getElem?_eq_getElem h2]
end Nep
