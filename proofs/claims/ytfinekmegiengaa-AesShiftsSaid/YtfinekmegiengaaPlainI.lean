/- Plain laws of layer 7: decrypting undoes encrypting, and encrypting decrypting. -/
import Derived.Test.YtfinekmegiengaaPlainG
namespace Nep
theorem xt_xor_all : ∀ x, x < 256 → ∀ y, y < 256 → xt (x ^^^ y) = xt x ^^^ xt y := by decide +kernel
theorem xor8 {x y : Nat} (hx : x < 256) (hy : y < 256) : x ^^^ y < 256 := Nat.xor_lt_two_pow (n := 8) hx hy
theorem r1 : ∀ x, x < 256 → rmul 1 x = x := by decide +kernel
theorem r2 : ∀ x, x < 256 → rmul 2 x = xt x := by decide +kernel
theorem r3 : ∀ x, x < 256 → rmul 3 x = xt x ^^^ x := by decide +kernel
theorem r9 : ∀ x, x < 256 → rmul 9 x = xt (xt (xt x)) ^^^ x := by decide +kernel
theorem r11 : ∀ x, x < 256 → rmul 11 x = xt (xt (xt x)) ^^^ xt x ^^^ x := by decide +kernel
theorem r13 : ∀ x, x < 256 → rmul 13 x = xt (xt (xt x)) ^^^ xt (xt x) ^^^ x := by decide +kernel
theorem r14 : ∀ x, x < 256 → rmul 14 x = xt (xt (xt x)) ^^^ xt (xt x) ^^^ xt x := by decide +kernel
theorem rmul_xor {a x y : Nat} (ha : a ∈ [1, 2, 3, 9, 11, 13, 14]) (hx : x < 256) (hy : y < 256) : rmul a (x ^^^ y) = rmul a x ^^^ rmul a y := by
  have h1 := xt_xor_all x hx y hy
  have h2 := xt_xor_all _ (xt_lt x) _ (xt_lt y)
  have h3 := xt_xor_all _ (xt_lt (xt x)) _ (xt_lt (xt y))
  have hxy := xor8 hx hy
  simp only [List.mem_cons, List.not_mem_nil, or_false] at ha
  rcases ha with rfl | rfl | rfl | rfl | rfl | rfl | rfl
  · rw [r1 _ hxy, r1 _ hx, r1 _ hy]
  · rw [r2 _ hxy, r2 _ hx, r2 _ hy, h1]
  · rw [r3 _ hxy, r3 _ hx, r3 _ hy, h1]; ac_rfl
  · rw [r9 _ hxy, r9 _ hx, r9 _ hy, h1, h2, h3]; ac_rfl
  · rw [r11 _ hxy, r11 _ hx, r11 _ hy, h1, h2, h3]; ac_rfl
  · rw [r13 _ hxy, r13 _ hx, r13 _ hy, h1, h2, h3]; ac_rfl
  · rw [r14 _ hxy, r14 _ hx, r14 _ hy, h1, h2, h3]; ac_rfl

/-- what a product of products leaves of one byte -/
theorem inv0 : ∀ x, x < 256 → rmul 14 (rmul 2 x) ^^^ rmul 11 (rmul 1 x) ^^^ rmul 13 (rmul 1 x) ^^^ rmul 9 (rmul 3 x) = x := by decide +kernel
theorem inv1 : ∀ x, x < 256 → rmul 14 (rmul 3 x) ^^^ rmul 11 (rmul 2 x) ^^^ rmul 13 (rmul 1 x) ^^^ rmul 9 (rmul 1 x) = 0 := by decide +kernel
theorem inv2 : ∀ x, x < 256 → rmul 14 (rmul 1 x) ^^^ rmul 11 (rmul 3 x) ^^^ rmul 13 (rmul 2 x) ^^^ rmul 9 (rmul 1 x) = 0 := by decide +kernel
theorem inv3 : ∀ x, x < 256 → rmul 14 (rmul 1 x) ^^^ rmul 11 (rmul 1 x) ^^^ rmul 13 (rmul 3 x) ^^^ rmul 9 (rmul 2 x) = 0 := by decide +kernel
theorem jnv0 : ∀ x, x < 256 → rmul 2 (rmul 14 x) ^^^ rmul 3 (rmul 9 x) ^^^ rmul 1 (rmul 13 x) ^^^ rmul 1 (rmul 11 x) = x := by decide +kernel
theorem jnv1 : ∀ x, x < 256 → rmul 2 (rmul 11 x) ^^^ rmul 3 (rmul 14 x) ^^^ rmul 1 (rmul 9 x) ^^^ rmul 1 (rmul 13 x) = 0 := by decide +kernel
theorem jnv2 : ∀ x, x < 256 → rmul 2 (rmul 13 x) ^^^ rmul 3 (rmul 11 x) ^^^ rmul 1 (rmul 14 x) ^^^ rmul 1 (rmul 9 x) = 0 := by decide +kernel
theorem jnv3 : ∀ x, x < 256 → rmul 2 (rmul 9 x) ^^^ rmul 3 (rmul 13 x) ^^^ rmul 1 (rmul 11 x) ^^^ rmul 1 (rmul 14 x) = 0 := by decide +kernel

theorem mix4 (m0 m1 m2 m3 a b c d : Nat) : mixC [m0, m1, m2, m3] [a, b, c, d] =
    [rmul m0 a ^^^ rmul m1 b ^^^ rmul m2 c ^^^ rmul m3 d, rmul m0 b ^^^ rmul m1 c ^^^ rmul m2 d ^^^ rmul m3 a,
     rmul m0 c ^^^ rmul m1 d ^^^ rmul m2 a ^^^ rmul m3 b, rmul m0 d ^^^ rmul m1 a ^^^ rmul m2 b ^^^ rmul m3 c] := by
  simp [mixC, mixA, List.range_succ]

theorem lin4 {m n0 n1 n2 n3 a b c d : Nat} (h : m ∈ [1, 2, 3, 9, 11, 13, 14]) :
    rmul m (rmul n0 a ^^^ rmul n1 b ^^^ rmul n2 c ^^^ rmul n3 d) = rmul m (rmul n0 a) ^^^ rmul m (rmul n1 b) ^^^ rmul m (rmul n2 c) ^^^ rmul m (rmul n3 d) := by
  rw [rmul_xor h (xor8 (xor8 (rmul_lt _ _) (rmul_lt _ _)) (rmul_lt _ _)) (rmul_lt _ _), rmul_xor h (xor8 (rmul_lt _ _) (rmul_lt _ _)) (rmul_lt _ _), rmul_xor h (rmul_lt _ _) (rmul_lt _ _)]

theorem four_xor {p q r s : Nat} {x : Nat} (a1 a2 a3 a4 b1 b2 b3 b4 c1 c2 c3 c4 d1 d2 d3 d4 : Nat) (hp : a1 ^^^ a2 ^^^ a3 ^^^ a4 = x) (hq : b1 ^^^ b2 ^^^ b3 ^^^ b4 = 0) (hr : c1 ^^^ c2 ^^^ c3 ^^^ c4 = 0) (hs : d1 ^^^ d2 ^^^ d3 ^^^ d4 = 0)
    (hP : p = a1 ^^^ b1 ^^^ c1 ^^^ d1) (hQ : q = b2 ^^^ c2 ^^^ d2 ^^^ a2) (hR : r = c3 ^^^ d3 ^^^ a3 ^^^ b3) (hS : s = d4 ^^^ a4 ^^^ b4 ^^^ c4) : p ^^^ q ^^^ r ^^^ s = x := by
  have e : p ^^^ q ^^^ r ^^^ s = (a1 ^^^ a2 ^^^ a3 ^^^ a4) ^^^ (b1 ^^^ b2 ^^^ b3 ^^^ b4) ^^^ (c1 ^^^ c2 ^^^ c3 ^^^ c4) ^^^ (d1 ^^^ d2 ^^^ d3 ^^^ d4) := by
    rw [hP, hQ, hR, hS]; ac_rfl
  rw [e, hp, hq, hr, hs]; simp

theorem unmix_mix {c : List Nat} (hl : c.length = 4) (hb : ∀ x ∈ c, x < 256) : mixC [14, 11, 13, 9] (mixC [2, 3, 1, 1] c) = c := by
  obtain ⟨a, b, c, d, rfl⟩ := four hl
  have ha := hb a (by simp)
  have hb' := hb b (by simp)
  have hc := hb c (by simp)
  have hd := hb d (by simp)
  rw [mix4, mix4]
  have m14 : 14 ∈ [1, 2, 3, 9, 11, 13, 14] := by decide
  have m11 : 11 ∈ [1, 2, 3, 9, 11, 13, 14] := by decide
  have m13 : 13 ∈ [1, 2, 3, 9, 11, 13, 14] := by decide
  have m9 : 9 ∈ [1, 2, 3, 9, 11, 13, 14] := by decide
  rw [lin4 m14, lin4 m14, lin4 m14, lin4 m14, lin4 m11, lin4 m11, lin4 m11, lin4 m11, lin4 m13, lin4 m13, lin4 m13, lin4 m13, lin4 m9, lin4 m9, lin4 m9, lin4 m9]
  simp only [List.cons.injEq, and_true]
  exact ⟨four_xor _ _ _ _ _ _ _ _ _ _ _ _ _ _ _ _ (inv0 a ha) (inv1 b hb') (inv2 c hc) (inv3 d hd) rfl rfl rfl rfl,
    four_xor _ _ _ _ _ _ _ _ _ _ _ _ _ _ _ _ (inv0 b hb') (inv1 c hc) (inv2 d hd) (inv3 a ha) rfl rfl rfl rfl,
    four_xor _ _ _ _ _ _ _ _ _ _ _ _ _ _ _ _ (inv0 c hc) (inv1 d hd) (inv2 a ha) (inv3 b hb') rfl rfl rfl rfl,
    four_xor _ _ _ _ _ _ _ _ _ _ _ _ _ _ _ _ (inv0 d hd) (inv1 a ha) (inv2 b hb') (inv3 c hc) rfl rfl rfl rfl⟩
theorem mix_unmix {c : List Nat} (hl : c.length = 4) (hb : ∀ x ∈ c, x < 256) : mixC [2, 3, 1, 1] (mixC [14, 11, 13, 9] c) = c := by
  obtain ⟨a, b, c, d, rfl⟩ := four hl
  have ha := hb a (by simp)
  have hb' := hb b (by simp)
  have hc := hb c (by simp)
  have hd := hb d (by simp)
  rw [mix4, mix4]
  have m2 : 2 ∈ [1, 2, 3, 9, 11, 13, 14] := by decide
  have m3 : 3 ∈ [1, 2, 3, 9, 11, 13, 14] := by decide
  have m1 : 1 ∈ [1, 2, 3, 9, 11, 13, 14] := by decide
  rw [lin4 m2, lin4 m2, lin4 m2, lin4 m2, lin4 m3, lin4 m3, lin4 m3, lin4 m3, lin4 m1, lin4 m1, lin4 m1, lin4 m1]
  simp only [List.cons.injEq, and_true]
  exact ⟨four_xor _ _ _ _ _ _ _ _ _ _ _ _ _ _ _ _ (jnv0 a ha) (jnv1 b hb') (jnv2 c hc) (jnv3 d hd) rfl rfl rfl rfl,
    four_xor _ _ _ _ _ _ _ _ _ _ _ _ _ _ _ _ (jnv0 b hb') (jnv1 c hc) (jnv2 d hd) (jnv3 a ha) rfl rfl rfl rfl,
    four_xor _ _ _ _ _ _ _ _ _ _ _ _ _ _ _ _ (jnv0 c hc) (jnv1 d hd) (jnv2 a ha) (jnv3 b hb') rfl rfl rfl rfl,
    four_xor _ _ _ _ _ _ _ _ _ _ _ _ _ _ _ _ (jnv0 d hd) (jnv1 a ha) (jnv2 b hb') (jnv3 c hc) rfl rfl rfl rfl⟩

theorem mixL_four (m b : List Nat) : mixL m b = mixC m (b.take 4) ++ (mixC m ((b.drop 4).take 4) ++ (mixC m ((b.drop 8).take 4) ++ mixC m ((b.drop 12).take 4))) := by
  simp [mixL, mixN, List.append_assoc]
theorem take4_app {x y : List Nat} (hx : x.length = 4) : (x ++ y).take 4 = x := by rw [List.take_append, List.take_of_length_le (by omega), hx]; simp
theorem drop4_app {x y : List Nat} (hx : x.length = 4) : (x ++ y).drop 4 = y := by rw [List.drop_append, List.drop_eq_nil_of_le (by omega), hx]; simp
theorem mixL_inv (m n : List Nat) (h : ∀ c : List Nat, c.length = 4 → (∀ x ∈ c, x < 256) → mixC m (mixC n c) = c) {b : List Nat} (hl : b.length = 16) (hb : ∀ x ∈ b, x < 256) : mixL m (mixL n b) = b := by
  have hbt : ∀ k, ∀ x ∈ (b.drop k).take 4, x < 256 := fun k x hx => hb x (List.mem_of_mem_drop (List.mem_of_mem_take hx))
  have hlt : ∀ k, k ≤ 12 → ((b.drop k).take 4).length = 4 := fun k hk => by rw [List.length_take, List.length_drop]; omega
  rw [mixL_four m, mixL_four n]
  have l0 := mixC_length n (b.take 4)
  have l1 := mixC_length n ((b.drop 4).take 4)
  have l2 := mixC_length n ((b.drop 8).take 4)
  have l3 := mixC_length n ((b.drop 12).take 4)
  generalize hc0 : mixC n (b.take 4) = c0 at *
  generalize hc1 : mixC n ((b.drop 4).take 4) = c1 at *
  generalize hc2 : mixC n ((b.drop 8).take 4) = c2 at *
  generalize hc3 : mixC n ((b.drop 12).take 4) = c3 at *
  have d8 : (c0 ++ (c1 ++ (c2 ++ c3))).drop 8 = c2 ++ c3 := by
    rw [show (8 : Nat) = 4 + 4 from rfl, ← List.drop_drop, drop4_app l0, drop4_app l1]
  have d12 : (c0 ++ (c1 ++ (c2 ++ c3))).drop 12 = c3 := by
    rw [show (12 : Nat) = 8 + 4 from rfl, ← List.drop_drop, d8, drop4_app l2]
  rw [d12, d8, take4_app l0, drop4_app l0, take4_app l1, take4_app l2, List.take_of_length_le (by omega), ← hc0, ← hc1, ← hc2, ← hc3]
  have h0 := h (b.take 4) (by rw [List.length_take]; omega) (fun x hx => hb x (List.mem_of_mem_take hx))
  rw [h0, h _ (hlt 4 (by omega)) (hbt 4), h _ (hlt 8 (by omega)) (hbt 8), h _ (hlt 12 (by omega)) (hbt 12)]
  have e12 : (b.drop 12).take 4 = b.drop 12 := List.take_of_length_le (by rw [List.length_drop]; omega)
  have e8 : (b.drop 8).take 4 ++ b.drop 12 = b.drop 8 := by
    have := List.take_append_drop 4 (b.drop 8)
    rwa [List.drop_drop] at this
  have e4 : (b.drop 4).take 4 ++ b.drop 8 = b.drop 4 := by
    have := List.take_append_drop 4 (b.drop 4)
    rwa [List.drop_drop] at this
  rw [e12, e8, e4, List.take_append_drop]

theorem sixteen {l : List Nat} (h : l.length = 16) : ∃ a b c d e f g h i j k m n o p q, l = [a, b, c, d, e, f, g, h, i, j, k, m, n, o, p, q] := by
  match l, h with
  | [a, b, c, d, e, f, g, h, i, j, k, m, n, o, p, q], _ => exact ⟨a, b, c, d, e, f, g, h, i, j, k, m, n, o, p, q, rfl⟩
theorem shL_13 {b : List Nat} (hl : b.length = 16) : shL (shL b 1) 3 = b := by
  obtain ⟨a, b, c, d, e, f, g, h, i, j, k, m, n, o, p, q, rfl⟩ := sixteen hl
  rfl
theorem shL_31 {b : List Nat} (hl : b.length = 16) : shL (shL b 3) 1 = b := by
  obtain ⟨a, b, c, d, e, f, g, h, i, j, k, m, n, o, p, q, rfl⟩ := sixteen hl
  rfl
theorem xorL_self {a b : List Nat} (h : a.length = b.length) : xorL (xorL a b) b = a := by
  apply List.ext_getElem
  · rw [xorL_length _ _ (by rw [xorL_length _ _ h]; exact h), xorL_length _ _ h]
  · intro i h1 h2
    simp [xorL, Nat.xor_assoc]
theorem map_bk_sb {l : List Nat} (h : ∀ x ∈ l, x < 256) : (l.map sb).map bk = l := by
  rw [List.map_map]
  conv => rhs; rw [← List.map_id l]
  exact List.map_congr_left fun x hx => bk_sb x (h x hx)
theorem map_sb_bk {l : List Nat} (h : ∀ x ∈ l, x < 256) : (l.map bk).map sb = l := by
  rw [List.map_map]
  conv => rhs; rw [← List.map_id l]
  exact List.map_congr_left fun x hx => sb_bk x (h x hx)

theorem dec_enc (rk b : List Nat) (hr : rk.length = 240) (hrb : ∀ x ∈ rk, x < 256) (hb : b.length = 16) (hbb : ∀ x ∈ b, x < 256) (j : Nat) (hj : j ≤ 14) : decF rk (encF rk b 14) j = encF rk b (14 - j) := by
  induction j with
  | zero => rfl
  | succ j ih =>
    have hk := rkF_length rk hr (14 - j) (by omega)
    have he := encF_blk rk b hr hrb hb hbb (13 - j) (by omega)
    rw [decF, ih (by omega), show 14 - j = (13 - j) + 1 from by omega, show 14 - (j + 1) = 13 - j from by omega]
    rw [show 14 - j = (13 - j) + 1 from by omega] at hk
    rw [encF]
    by_cases h0 : 0 < j
    · rw [if_pos h0, if_pos (by omega), xorL_self (by rw [mixL_length, hk]), mixL_inv _ _ (fun c h1 h2 => unmix_mix h1 h2) (shL_length _ _) (shL_bytes _ (map_sb_bytes _) _),
        shL_13 (by rw [List.length_map]; exact he.1), map_bk_sb he.2]
    · rw [if_neg h0, if_neg (by omega), xorL_self (by rw [shL_length, hk]), shL_13 (by rw [List.length_map]; exact he.1), map_bk_sb he.2]
theorem dec_enc_all (rk b : List Nat) (hr : rk.length = 240) (hrb : ∀ x ∈ rk, x < 256) (hb : b.length = 16) (hbb : ∀ x ∈ b, x < 256) : xorL (decF rk (encF rk b 14) 14) (rkF rk 0) = b := by
  rw [dec_enc rk b hr hrb hb hbb 14 (by omega)]
  exact xorL_self (by rw [rkF_length rk hr 0 (by omega), hb])

theorem enc_dec (rk b : List Nat) (hr : rk.length = 240) (hrb : ∀ x ∈ rk, x < 256) (hb : b.length = 16) (hbb : ∀ x ∈ b, x < 256) (r : Nat) (h : r ≤ 14) : encF rk (xorL (decF rk b 14) (rkF rk 0)) r = decF rk b (14 - r) := by
  induction r with
  | zero =>
    rw [encF, xorL_self (by rw [rkF_length rk hr 0 (by omega)]; exact (decF_blk rk b hb hbb 14).1)]
  | succ r ih =>
    have hk := rkF_length rk hr (r + 1) (by omega)
    have he := decF_blk rk b hb hbb (13 - r)
    have hx : (xorL (decF rk b (13 - r)) (rkF rk (r + 1))).length = 16 := by rw [xorL_length _ _ (by rw [he.1, hk])]; exact he.1
    have hxb : ∀ x ∈ xorL (decF rk b (13 - r)) (rkF rk (r + 1)), x < 256 := xorL_bytes he.2 (rkF_bytes rk hrb _)
    rw [encF, ih (by omega), show 14 - r = (13 - r) + 1 from by omega, decF, show 14 - (r + 1) = 13 - r from by omega, show 14 - (13 - r) = r + 1 from by omega]
    by_cases h0 : 0 < 13 - r
    · rw [if_pos h0, if_pos (by omega), map_sb_bk (shL_bytes _ (mixL_bytes _ _) _), shL_31 (mixL_length _ _), mixL_inv _ _ (fun c h1 h2 => mix_unmix h1 h2) hx hxb, xorL_self (by rw [he.1, hk])]
    · rw [if_neg h0, if_neg (by omega), map_sb_bk (shL_bytes _ hxb _), shL_31 hx, xorL_self (by rw [he.1, hk])]
theorem enc_dec_all (rk b : List Nat) (hr : rk.length = 240) (hrb : ∀ x ∈ rk, x < 256) (hb : b.length = 16) (hbb : ∀ x ∈ b, x < 256) : encF rk (xorL (decF rk b 14) (rkF rk 0)) 14 = b := by
  rw [enc_dec rk b hr hrb hb hbb 14 (by omega)]
  rfl
end Nep
