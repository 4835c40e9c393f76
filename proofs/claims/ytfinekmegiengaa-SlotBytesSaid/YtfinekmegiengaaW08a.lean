/- The walks of layers 1 and 8: bytes xored; sixteen bytes doubled; a list of doubles. -/
import Derived.Test.YtfinekmegiengaaMemG
import Derived.Test.YtfinekmegiengaaWB
import Derived.Test.YtfinekmegiengaaPlnC
namespace Go.Proofs.Ytfinekmegiengaa
open Go.RowKit Nep
set_option maxRecDepth 100000
set_option linter.unusedVariables false
set_option linter.unusedSimpArgs false
set_option maxHeartbeats 1000000

theorem oxor_short (v1 v2 : Value) (a b : List Nat) (w : World) (hr1 : RdB w.heap.size w v1 a) (hr2 : RdB w.heap.size w v2 b) (hab : a.length ≠ b.length) : Calls Try.prog 152 #[v1, v2] w (RetE 2 w) := by
  have hng : ((a.length : Int) != (b.length : Int)) = true := by simp; omega
  go_enter Try.func152, Try.ntmps152
  go_wp2_with (first | (refine wpList_lenB hr1 rfl rfl rfl ?_) | (refine wpList_lenB hr2 rfl rfl rfl ?_))
  go_ret2
  exact ⟨rfl, Below.refl _ _⟩

theorem oxor_calls (v1 v2 : Value) (a b : List Nat) (w : World) (ha : Bytes a) (hb : Bytes b) (hr1 : RdB w.heap.size w v1 a) (hr2 : RdB w.heap.size w v2 b) (hab : a.length = b.length) (hn : a.length ≤ 140737488351232) :
    Calls Try.prog 152 #[v1, v2] w (RetSE (xorL a b) w) := by
  have hng : ((a.length : Int) != (b.length : Int)) = false := by rw [hab]; simp
  obtain ⟨ys, hys⟩ : ∃ ys, ys = xorL a b := ⟨_, rfl⟩
  obtain ⟨zs, hzs⟩ : ∃ zs, zs = bv (List.replicate a.length 0) := ⟨_, rfl⟩
  have hyl : ys.length = a.length := by rw [hys, xorL_length _ _ hab]
  have hzl : zs.length = a.length := by rw [hzs]; simp
  have HY := Lib.hid hys
  have HYL := Lib.hid hyl
  have HZL := Lib.hid hzl
  have HZ := Lib.hid hzs
  have HAB := Lib.hid hab
  rw [← hys]
  clear hys hyl hab hzs hzl
  have hr10 := hr1
  have hr20 := hr2
  go_enter Try.func152, Try.ntmps152
  go_wp2_with (first | (refine wpList_lenB hr1 rfl rfl rfl ?_) | (refine wpList_lenB hr2 rfl rfl rfl ?_) | (apply wpList_makeBytes (n := a.length); rfl; rfl; rfl; rfl; exact hn; intro g w1 hg1 hg2 hrow hb1; replace hr1 := hr1.mono hb1))
  have hf : FillRow w1 g 5 (bv ys) zs 0 := .start (by rw [HZ.out]; exact hrow) (by rw [HZL.out, bv_length, HYL.out])
  clear hr1 hr2 hrow
  go_loopw [18] (fun i wr => ∃ k : Nat, k ≤ a.length ∧ i = .int .i64 k ∧ FillRow wr g 5 (bv ys) zs k ∧ Below w.heap.size w wr) (fun i _ => a.length - (intOf i).toNat)
  case atStart => exact ⟨0, by omega, rfl, hf, hb1⟩
  case round =>
    obtain ⟨k, hk, rfl, hfk, hbk⟩ := hrel
    clear hf hb1
    have hrk1 := hr10.mono hbk
    have hrk2 := hr20.mono hbk
    by_cases hlt : k < a.length
    · obtain ⟨ad1, c1, rfl, hB1, hE1, hc1⟩ := hrk1.at hlt
      obtain ⟨ad2, c2, rfl, hB2, hE2, hc2⟩ := hrk2.at (k := k) (by have := HAB.out; omega)
      obtain ⟨x, hx⟩ : ∃ x, x = a.getD k 0 := ⟨_, rfl⟩
      obtain ⟨y, hy⟩ : ∃ y, y = b.getD k 0 := ⟨_, rfl⟩
      have hx8 : x < 256 := hx ▸ ha.get k
      have hy8 : y < 256 := hy ▸ hb.get k
      obtain ⟨z, hz⟩ : ∃ z, z = x ^^^ y := ⟨_, rfl⟩
      have HYK : (bv ys)[k]? = some (.int .u8 z) := by
        rw [bv_get _ _ (by have := HYL.out; omega), HY.out, xorL_get _ _ _ hlt (by have := HAB.out; omega), hz, hx, hy]
      rw [← hx] at hc1
      rw [← hy] at hc2
      have hxy : bits .xor .u8 (x : Int) (y : Int) = z := hz ▸ u8_xor_nat x y hx8 hy8
      have hl2 : (k : Int) < (b.length : Int) := by have := HAB.out; omega
      have hl1 : (k : Int) < (a.length : Int) := by omega
      have hk0 : (0 : Int) ≤ (k : Int) := by omega
      have hc3 : wr.drew.cell? ⟨g, k, none⟩ = some (zs.getD k undef) := hfk.cell (by have := HZL.out; omega)
      have hfr : wr.drew.frozen? ⟨g, k, none⟩ = false := hfk.free k
      have hd1 : wr.drew.cell? (ad1.add k) = some (.int .u8 (x : Int)) := hc1
      have hd2 : wr.drew.cell? (ad2.add k) = some (.int .u8 (y : Int)) := hc2
      have HYK' := Lib.hid HYK
      clear hx hy hz HYK hc1 hc2
      go_wp2_with fail
      go_still_tail 12, (by kernel_rfl)
      change wpList _ _ _ _ _ wr.drew
      have hfd : FillRow wr.drew g 5 (bv ys) zs k := ⟨hfk.row, hfk.len⟩
      have hbd := hbk.drew
      clear hfk hbk hrk1 hrk2
      generalize wr.drew = wd at *
      go_wp2
      go_roundw
      case rel => exact ⟨k + 1, by omega, by go_num, hfd.put HYK'.out, hbd.setCell (by exact hg1) _⟩
      case measure => simp [intOf]; omega
    · go_wp2_with fail
      go_ret2
      obtain rfl : k = a.length := by omega
      obtain ⟨v', he, ho, hb'⟩ : RetS ys w (.returned (.slice (some ⟨g, 0, none⟩) a.length a.length)) wr := RetS.of_row (hfk.done (by rw [HZL.out]; exact Nat.le_refl _)) hg1 hbk (by rw [HYL.out]; exact hn) HYL.out.symm
      obtain rfl : Value.slice (some ⟨g, 0, none⟩) a.length a.length = v' := by injection he
      exact ⟨_, rfl, ho, hb'⟩

theorem told16_calls (b : List Nat) (hl : b.length = 16) (w : World) : Calls Try.prog 180 #[blk b] w (RetS b w) := by
  obtain ⟨vb, hvb⟩ : ∃ vb, vb = blk b := ⟨_, rfl⟩
  rw [← hvb]
  have HV := Lib.hid hvb
  have HL := Lib.hid hl
  clear hvb hl
  go_enter Try.func180, Try.ntmps180
  go_wp2_with (first
    | (apply wpList_boxR vb; rfl; rfl; rfl; intro g1 w1 hg1 hg1' hr1 hb1; rw [HV.out, cells_blk] at hr1)
    | (apply wpList_buildB []; exact of_decide_eq_true rfl; rfl; rfl; rfl; intro gb w4 hgb1 hgb2 hob hb4)
    | (apply wpList_cutArrL 0 16 16; rfl; rfl; exact Try.underlying49; exact size_u8; rfl; exact .inl ⟨rfl, rfl⟩; exact .inl ⟨rfl, rfl, rfl⟩; exact .inl ⟨rfl, rfl⟩; omega; omega; omega)
    | (at_builtin; apply wpList_appendB hob (rdb_of_row (hr1.next hb4) HL.out); rfl; rfl; rfl; rfl; (rw [HL.out]; exact of_decide_eq_true rfl); (have := hb4.size; omega); intro v5 w5 ho5 hg5))
  go_ret
  have s1 := hb1.size
  have s4 := hb4.size
  exact ⟨v5, rfl, own_base ho5 s1, (hb1.trans (hb4.mono s1)).trans (below_own hg5 hob s1 (by omega))⟩

theorem index16 (c : Array Value) (a : Nat) (v : Value) (ha : a < 16) (hv : c[a]? = some v) (w : World) : (Instr.index 49 (.agg c) (.int .i64 a)).run Try.prog w = .ok v w :=
  run_index_agg c a v w Try.underlying49 (by kernel_rfl) (by kernel_rfl) ha hv
theorem u8_join (x y i : Nat) {X Y : Int} (hx : x < 256) (hy : y < 256) (hm : x % 2 ^ i = 0) (hl : y < 2 ^ i) (hX : X = x) (hY : Y = y) :
    bits .or .u8 X Y = ((x + y : Nat) : Int) := by
  subst hX; subst hY
  rw [u8_or_nat x y hx hy, nat_join i x y hm hl]

/-- doubled on its way: the first n bytes -/
def dblP (b : List Nat) (n : Nat) : List Nat := (List.range 16).map fun i => if i < n then dblA b i else 0
theorem dblP_length (b : List Nat) (n : Nat) : (dblP b n).length = 16 := by simp [dblP]
theorem dblP_zero (b : List Nat) : dblP b 0 = List.replicate 16 0 := by simp [dblP, List.map_const']
theorem dblP_get (b : List Nat) (n i : Nat) (hi : i < 16) : (dblP b n)[i]? = some (if i < n then dblA b i else 0) := by simp [dblP, hi]
theorem dblP_set (b : List Nat) (n : Nat) (hn : n < 16) : (dblP b n).set n (dblA b n) = dblP b (n + 1) := by
  apply List.ext_getElem?
  intro j
  rw [List.getElem?_set]
  by_cases hj : n = j
  · subst hj
    rw [if_pos rfl, if_pos (by rw [dblP_length]; exact hn), dblP_get _ _ _ hn, if_pos (by omega)]
  · rw [if_neg hj]
    by_cases h16 : j < 16
    · rw [dblP_get _ _ _ h16, dblP_get _ _ _ h16]
      by_cases h1 : j < n
      · rw [if_pos h1, if_pos (by omega)]
      · rw [if_neg h1, if_neg (by omega)]
    · rw [List.getElem?_eq_none (by rw [dblP_length]; omega), List.getElem?_eq_none (by rw [dblP_length]; omega)]
theorem dblP_full (b : List Nat) : (dblP b 16).set 0 (dblA b 0 ^^^ (135 * (b.getD 15 0 / 128))) = dblL b := by
  apply List.ext_getElem?
  intro j
  rw [List.getElem?_set]
  by_cases hj : 0 = j
  · subst hj
    rw [if_pos rfl, if_pos (by rw [dblP_length]; omega)]
    simp [dblL]
  · rw [if_neg hj]
    by_cases h16 : j < 16
    · rw [dblP_get _ _ _ h16, if_pos h16]
      simp [dblL, h16, show ¬ j = 0 by omega]
    · rw [List.getElem?_eq_none (by rw [dblP_length]; omega), List.getElem?_eq_none (by rw [dblL_length]; omega)]
def carryA (b : List Nat) (n : Nat) : Nat := if n = 0 then 0 else b.getD (n - 1) 0 / 128

theorem double_calls (b : List Nat) (hb : Bytes b) (hl : b.length = 16) (w : World) : Calls Try.prog 181 #[blk b] w (RetB (blk (dblL b)) w) := by
  obtain ⟨vb, hvb⟩ : ∃ vb, vb = blk b := ⟨_, rfl⟩
  rw [← hvb]
  have hbl : (bv b).length = 16 := by rw [bv_length, hl]
  have HV := Lib.hid hvb
  have HL := Lib.hid hl
  clear hvb hl
  go_enter Try.func181, Try.ntmps181
  go_wp2_with (first
    | (apply wpList_boxR vb; rfl; rfl; rfl; intro ga w1 hga1 hga2 hra hb1; rw [HV.out, cells_blk] at hra)
    | (apply wpList_allocR (w := w1) _ _ zinfo_a16; rfl; rfl; intro gz w2 hgz1 hgz2 hrz hb2; rw [zero16] at hrz)
    | (apply wpList_allocR (w := w2) _ _ zinfo_a16; rfl; rfl; intro go w3 hgo1 hgo2 hro hb3; rw [zero16] at hro; have hra3 := (hra.next hb2).next hb3)
    | (apply wpList_loadRow hra3 hbl Try.underlying49 size_a16; rfl; rfl; rfl))
  have s1 := hb1.size
  have s2 := hb2.size
  have hrz3 := hrz.next hb3
  have hwb : Below w.heap.size w w3 := hb1.trans ((hb2.mono s1).trans (hb3.mono (by omega)))
  rw [← dblP_zero b] at hro
  have hgg : gz ≠ go ∧ w.heap.size ≤ go ∧ w.heap.size ≤ gz := ⟨by omega, by omega, by omega⟩
  obtain ⟨n1, b1, b2⟩ := hgg
  clear hra hrz hra3 hb1 hb2 hb3 s1 s2 hga1 hga2 hgz1 hgz2 hgo1 hgo2
  go_loopw [4, 8] (fun c i wr => ∃ n m : Nat, n ≤ 16 ∧ m < 2 ∧ i = .int .i64 n ∧ c = .int .u8 m ∧ Hid (m = carryA b n) ∧ Row wr go 49 (bv (dblP b n)).toArray ∧ Row wr gz 49 (bv (List.replicate 16 0)).toArray ∧ Below w.heap.size w wr) (fun _ i _ => 16 - (intOf i).toNat)
  case atStart => exact ⟨0, 0, by omega, by omega, rfl, rfl, Lib.hid (by rfl), hro, hrz3, hwb⟩
  case round =>
    obtain ⟨n, m, hn, hm2, rfl, rfl, hm, hfk, hzk, hwk⟩ := hrel
    clear hro hrz3 hwb
    by_cases hlt : n < 16
    · obtain ⟨x, hx⟩ : ∃ x, x = b.getD n 0 := ⟨_, rfl⟩
      have hx8 : x < 256 := hx ▸ hb.get n
      have hidx : (bv b).toArray[n]? = some (.int .u8 x) := by rw [List.getElem?_toArray, bv_get _ _ (by rw [HL.out]; exact hlt), ← hx]
      have hix := fun w => index16 (bv b).toArray n _ hlt hidx w
      obtain ⟨y, hy⟩ : ∃ y, y = x * 2 % 256 + m := ⟨_, rfl⟩
      have hj : bits .or .u8 ((x : Int) * 2 % 256) (m : Int) = y := hy ▸ u8_join (x * 2 % 256) m 1 (X := (x : Int) * 2 % 256) (Y := (m : Int)) (by omega) (by omega) (by omega) (by omega) (by omega) rfl
      have hyA : dblA b n = y := by rw [hy, hx, hm.out]; rfl
      have hset := dblP_set b n hlt
      rw [hyA] at hset
      have hc0 : wr.cell? ⟨go, n, none⟩ = some (.int .u8 (((dblP b n).getD n 0 : Nat) : Int)) := hfk.cell (by rw [List.getElem?_toArray, bv_get _ _ (by rw [dblP_length]; exact hlt)])
      have hfr : wr.frozen? ⟨go, n, none⟩ = false := hfk.free n
      have hnext : x / 128 = carryA b (n + 1) := by rw [hx]; rfl
      have HN := Lib.hid hnext
      have HSET := Lib.hid hset
      clear hx hidx hy hyA hset hnext hm
      go_wp2_with fail
      go_roundw
      case rel =>
        refine ⟨n + 1, x / 128, by omega, by omega, by go_num, by go_num, HN, ?_, hzk.other n1 _, hwk.setCell (by exact b1) _⟩
        have h := hfk.set n (.int .u8 (y : Int))
        rw [List.setIfInBounds_toArray] at h
        rw [← HSET.out]
        unfold bv at h ⊢
        rw [List.map_set]
        exact h
      case measure => simp [intOf]; omega
    · obtain rfl : n = 16 := by omega
      obtain ⟨d, hd⟩ : ∃ d, d = dblA b 0 := ⟨_, rfl⟩
      have hd8 : d < 256 := hd ▸ dblA_lt b hb 0
      obtain ⟨r, hr⟩ : ∃ r, r = d ^^^ (135 * m) := ⟨_, rfl⟩
      have hx : bits .xor .u8 (d : Int) (135 * (m : Int)) = r := by
        have h := u8_xor_nat d (135 * m) hd8 (by omega)
        rw [hr, ← h]
        congr 1
      have hset := dblP_full b
      rw [← hd, show b.getD 15 0 / 128 = m from hm.out.symm, ← hr] at hset
      have hc0 : wr.cell? ⟨go, 0, none⟩ = some (.int .u8 (d : Int)) := hfk.cell (by
        rw [List.getElem?_toArray]
        unfold bv
        rw [List.getElem?_map, dblP_get _ _ _ (by omega), if_pos (by omega), ← hd]
        rfl)
      have hfr : wr.frozen? ⟨go, 0, none⟩ = false := hfk.free 0
      have h := hfk.set 0 (.int .u8 (r : Int))
      have hrow : Row (wr.setCell ⟨go, 0, none⟩ (.int .u8 (r : Int))) go 49 (bv (dblL b)).toArray := by
        rw [List.setIfInBounds_toArray] at h
        rw [← hset]
        unfold bv at h ⊢
        rw [List.map_set]
        exact h
      have hzk2 := hzk.other (p := ⟨go, 0, none⟩) n1 (.int .u8 (r : Int))
      have hyl : (bv (dblL b)).length = 16 := by rw [bv_length, dblL_length]
      have hb4 := hwk.setCell (p := ⟨go, 0, none⟩) (by exact b1) (.int .u8 (r : Int))
      clear hd hr hset h hm hfk hzk
      generalize dblL b = ys at *
      go_wp2_with (first
        | (apply wpList_loadRow hrow hyl Try.underlying49 size_a16; rfl; rfl; rfl)
        | (apply wpList_storeRow hzk2 (bv ys).toArray; rfl; rfl; rfl; rfl; (rw [List.size_toArray, hyl]; exact size_a16); (rw [List.size_toArray, List.size_toArray, hyl, bv_length, List.length_replicate]); exact bv_all ys; intro w5 hw5 hr5 hs5))
      refine ret_row rfl gz _ (bv ys).toArray (0, 0) _ rfl hr5 rfl Try.underlying49 rfl (by rw [List.size_toArray, hyl]; exact size_a16) ?_
      rw [hw5]
      exact ⟨rfl, hb4.trans (below_row _ b2)⟩
end Go.Proofs.Ytfinekmegiengaa
