/- The walks of layer 7: blocks: added, shifted, put. -/
import Derived.Test.YtfinekmegiengaaReg
import Derived.Test.YtfinekmegiengaaW07c
import Derived.Test.YtfinekmegiengaaW06d
import Derived.StillTailTactics
namespace Go.Proofs.Ytfinekmegiengaa
open Go.RowKit Nep
set_option maxRecDepth 100000
set_option linter.unusedVariables false
set_option linter.unusedSimpArgs false
set_option maxHeartbeats 1000000

/-- a block as a value -/
def blk (l : List Nat) : Value := .agg (bv l).toArray
theorem cells_blk (l : List Nat) : (blk l).cells = (bv l).toArray := rfl
theorem zero16 : (Value.agg (Array.replicate 16 (.int .u8 0))).cells = (bv (List.replicate 16 0)).toArray := rfl
theorem zinfo_a16 : (Try.prog.info? 49).map (fun i => (i.zero, i.size)) = some (some (.agg (Array.replicate 16 (.int .u8 0))), 16) := by kernel_rfl

theorem added_calls (a b : List Nat) (ha : Bytes a) (hb : Bytes b) (hla : a.length = 16) (hlb : b.length = 16) (w : World) :
    Calls Try.prog 109 #[blk a, blk b] w (RetB (blk (xorL a b)) w) := by
  obtain ⟨ys, hys⟩ : ∃ ys, ys = xorL a b := ⟨_, rfl⟩
  have hyl : ys.length = 16 := by rw [hys, xorL_length _ _ (by omega), hla]
  have hyg : ∀ k, k < 16 → (((a.getD k 0 : Nat) : Int)) = a.getD k 0 ∧ (bv ys)[k]? = some (.int .u8 ((a.getD k 0 ^^^ b.getD k 0 : Nat) : Int)) := by
    intro k hk
    refine ⟨rfl, ?_⟩
    rw [bv_get _ _ (by omega), hys]
    simp [xorL, List.getElem?_zipWith, List.getElem?_eq_getElem (show k < a.length by omega), List.getElem?_eq_getElem (show k < b.length by omega)]
  have HYG := Lib.hid hyg
  rw [← hys]
  clear hys hyg
  obtain ⟨va, hva⟩ : ∃ va, va = blk a := ⟨_, rfl⟩
  obtain ⟨vb, hvb⟩ : ∃ vb, vb = blk b := ⟨_, rfl⟩
  rw [← hva, ← hvb]
  go_enter Try.func109, Try.ntmps109
  go_wp2_with (first
    | (apply wpList_boxR va; rfl; rfl; rfl; intro ga w1 hga1 hga2 hra hb1)
    | (apply wpList_boxR vb; rfl; rfl; rfl; intro gb w2 hgb1 hgb2 hrb hb2)
    | (apply wpList_allocR _ _ zinfo_a16; rfl; rfl; intro gz w3 hgz1 hgz2 hrz hb3))
  have hra3 := (hra.next hb2).next hb3
  have hrb3 := hrb.next hb3
  have hwb : Below w.heap.size w w3 := hb1.trans ((hb2.mono hb1.size).trans (hb3.mono (Nat.le_trans hb1.size hb2.size)))
  have hs1 := hb1.size
  have hs2 := hb2.size
  rw [hva, cells_blk] at hra3
  rw [hvb, cells_blk] at hrb3
  rw [zero16] at hrz
  have hgg : ga < w3.heap.size ∧ gb < w3.heap.size ∧ gz < w3.heap.size ∧ ga ≠ gb ∧ ga ≠ gz ∧ gb ≠ gz ∧ w.heap.size ≤ ga ∧ w.heap.size ≤ gb ∧ w.heap.size ≤ gz := ⟨hra3.lt, hrb3.lt, hrz.lt, by omega, by omega, by omega, by omega, by omega, by omega⟩
  obtain ⟨hga, hgb, hgz, n1, n2, n3, b1, b2, b3⟩ := hgg
  have hf0 : FillRow w3 ga 49 (bv ys) (bv a) 0 := .start hra3 (by rw [bv_length, bv_length, hyl, hla])
  have HLA := Lib.hid hla
  have HLB := Lib.hid hlb
  have HYL := Lib.hid hyl
  clear hra hrb hb1 hb2 hb3 hra3 hs1 hs2 hga1 hga2 hgb1 hgb2 hgz1 hgz2 hva hvb hla hlb hyl
  go_loopw [6] (fun i wr => ∃ k : Nat, k ≤ 16 ∧ i = .int .i64 k ∧ FillRow wr ga 49 (bv ys) (bv a) k ∧ Row wr gb 49 (bv b).toArray ∧ Row wr gz 49 (bv (List.replicate 16 0)).toArray ∧ Below w.heap.size w wr) (fun i _ => 16 - (intOf i).toNat)
  case atStart => exact ⟨0, by omega, rfl, hf0, hrb3, hrz, hwb⟩
  case round =>
    obtain ⟨k, hk, rfl, hfk, hrk, hzk, hbk⟩ := hrel
    clear hf0 hrb3 hrz hwb
    by_cases hlt : k < 16
    · obtain ⟨x, hx⟩ : ∃ x, x = a.getD k 0 := ⟨_, rfl⟩
      obtain ⟨y, hy⟩ : ∃ y, y = b.getD k 0 := ⟨_, rfl⟩
      have hx8 : x < 256 := by rw [hx]; exact ha.get k
      have hy8 : y < 256 := by rw [hy]; exact hb.get k
      have hyk := (HYG.out k hlt).2
      rw [← hx, ← hy] at hyk
      have HYK := Lib.hid hyk
      have hc1 : wr.drew.cell? ⟨ga, k, none⟩ = some (.int .u8 x) := by
        have h := hfk.cell (by rw [bv_length, HLA.out]; exact hlt)
        rw [List.getD_eq_getElem?_getD, bv_get _ _ (by rw [HLA.out]; exact hlt), ← hx] at h
        exact h
      have hc2 : wr.drew.cell? ⟨gb, k, none⟩ = some (.int .u8 y) := hrk.cell (by rw [List.getElem?_toArray, bv_get _ _ (by rw [HLB.out]; exact hlt), ← hy])
      have hfr : wr.drew.frozen? ⟨ga, k, none⟩ = false := hfk.free k
      have hx3 := u8_xor_nat x y hx8 hy8
      have hfd : FillRow wr.drew ga 49 (bv ys) (bv a) k := ⟨hfk.row, hfk.len⟩
      have hrd : Row wr.drew gb 49 (bv b).toArray := hrk
      have hzd : Row wr.drew gz 49 (bv (List.replicate 16 0)).toArray := hzk
      have hbd : Below w.heap.size w wr.drew := hbk.drew
      clear hx hy hyk hfk hrk hzk hbk
      go_wp2_with fail
      go_still_tail 8, (by kernel_rfl)
      change wpList _ _ _ _ _ wr.drew
      generalize wr.drew = wd at *
      go_wp2
      go_roundw
      case rel => exact ⟨k + 1, by omega, by go_num, hfd.put HYK.out, hrd.other (Ne.symm n1) _, hzd.other (Ne.symm n2) _, hbd.setCell (by exact b1) _⟩
      case measure => simp [intOf]; omega
    · obtain rfl : k = 16 := by omega
      have hra := hfk.done (by rw [bv_length, HLA.out]; exact Nat.le_refl _)
      have hyl : (bv ys).length = 16 := by rw [bv_length, HYL.out]
      have hgw := hzk.lt
      go_wp2_with (first
        | (apply wpList_loadRow hra hyl Try.underlying49 size_a16; rfl; rfl; rfl)
        | (apply wpList_storeRow hzk (bv ys).toArray; rfl; rfl; rfl; rfl; (rw [List.size_toArray, hyl]; exact size_a16); (rw [List.size_toArray, List.size_toArray, hyl, bv_length, List.length_replicate]); exact bv_all ys; intro w4 hw4 hr4 hs4))
      refine ret_row rfl gz _ (bv ys).toArray (0, 0) _ rfl hr4 rfl Try.underlying49 rfl (by rw [List.size_toArray, hyl]; exact size_a16) ?_
      rw [hw4]
      exact ⟨rfl, hbk.trans (below_row _ b3)⟩

/-- the place in a block from which a row's byte comes -/
def shP (by' j : Nat) : Nat := 4 * ((j / 4 + by' * (j % 4)) % 4) + j % 4
theorem shL_get (b : List Nat) (n j : Nat) (hj : j < 16) : (shL b n).getD j 0 = b.getD (shP n j) 0 := by
  unfold shL shP
  simp [hj]

theorem shifted_calls (a : List Nat) (ha : Bytes a) (hla : a.length = 16) (n : Nat) {N : Int} (hN : N = n) (hn : n ≤ 3) (w : World) :
    Calls Try.prog 110 #[blk a, .int .i64 N] w (RetB (blk (shL a n)) w) := by
  subst hN
  obtain ⟨ys, hys⟩ : ∃ ys, ys = shL a n := ⟨_, rfl⟩
  have hyl : ys.length = 16 := by rw [hys, shL_length]
  have hyg : ∀ c i, c < 4 → i < 4 → 4 * ((c + n * i) % 4) + i < 16 ∧ (bv ys)[4 * c + i]? = some (.int .u8 ((a.getD (4 * ((c + n * i) % 4) + i) 0 : Nat) : Int)) := by
    intro c i hc hi
    refine ⟨by omega, ?_⟩
    rw [bv_get _ _ (by omega), hys, shL_get _ _ _ (by omega)]
    unfold shP
    rw [show (4 * c + i) / 4 = c from by omega, show (4 * c + i) % 4 = i from by omega]
  have HYG := Lib.hid hyg
  rw [← hys]
  clear hys hyg
  obtain ⟨va, hva⟩ : ∃ va, va = blk a := ⟨_, rfl⟩
  rw [← hva]
  go_enter Try.func110, Try.ntmps110
  go_wp2_with (first
    | (apply wpList_boxR va; rfl; rfl; rfl; intro ga w1 hga1 hga2 hra hb1)
    | (apply wpList_allocR (w := w1) _ _ zinfo_a16; rfl; rfl; intro gz w2 hgz1 hgz2 hrz hb2)
    | (apply wpList_allocR (w := w2) _ _ zinfo_a16; rfl; rfl; intro go w3 hgo1 hgo2 hro hb3))
  have hra3 := (hra.next hb2).next hb3
  have hrz3 := hrz.next hb3
  have hwb : Below w.heap.size w w3 := hb1.trans ((hb2.mono hb1.size).trans (hb3.mono (Nat.le_trans hb1.size hb2.size)))
  have hs1 := hb1.size
  have hs2 := hb2.size
  rw [hva, cells_blk] at hra3
  rw [zero16] at hrz3 hro
  have hgg : ga ≠ gz ∧ ga ≠ go ∧ gz ≠ go ∧ w.heap.size ≤ ga ∧ w.heap.size ≤ gz ∧ w.heap.size ≤ go := ⟨by omega, by omega, by omega, by omega, by omega, by omega⟩
  obtain ⟨n1, n2, n3, b1, b2, b3⟩ := hgg
  have hf0 : FillRow w3 go 49 (bv ys) (bv (List.replicate 16 0)) 0 := .start hro (by rw [bv_length, bv_length, hyl, List.length_replicate])
  have HLA := Lib.hid hla
  have HYL := Lib.hid hyl
  clear hra hrz hb1 hb2 hb3 hs1 hs2 hga1 hga2 hgz1 hgz2 hgo1 hgo2 hva hla hyl hro
  go_loopw [8] (fun i wr => ∃ c : Nat, c ≤ 4 ∧ i = .int .i64 c ∧ FillRow wr go 49 (bv ys) (bv (List.replicate 16 0)) (4 * c) ∧ Row wr ga 49 (bv a).toArray ∧ Row wr gz 49 (bv (List.replicate 16 0)).toArray ∧ Below w.heap.size w wr) (fun i _ => 4 - (intOf i).toNat)
  case atStart => exact ⟨0, by omega, rfl, hf0, hra3, hrz3, hwb⟩
  case round =>
    obtain ⟨c, hc, rfl, hfk, hrk, hzk, hbk⟩ := hrel
    clear hf0 hra3 hrz3 hwb
    by_cases hlt : c < 4
    · obtain ⟨wo, hwo⟩ : ∃ wo : World, wo = wr := ⟨_, rfl⟩
      go_wp2_with fail
      go_loopw [11] (fun i wi => ∃ j : Nat, j ≤ 4 ∧ i = .int .i64 j ∧ FillRow wi go 49 (bv ys) (bv (List.replicate 16 0)) (4 * c + j) ∧ Row wi ga 49 (bv a).toArray ∧ Row wi gz 49 (bv (List.replicate 16 0)).toArray ∧ Below w.heap.size w wi) (fun i _ => 4 - (intOf i).toNat)
      case atStart => exact ⟨0, by omega, rfl, hfk, hrk, hzk, hbk⟩
      case round =>
        obtain ⟨j, hj4, rfl, hfi, hri, hzi, hbi⟩ := hrel
        clear hfk hrk hzk hbk
        by_cases hj : j < 4
        · obtain ⟨p, hp⟩ : ∃ p, p = n * j := ⟨_, rfl⟩
          have hp9 : p ≤ 9 := by rw [hp]; exact Nat.mul_le_mul hn (show j ≤ 3 by omega)
          obtain ⟨q, hq⟩ : ∃ q, q = (c + p) % 4 := ⟨_, rfl⟩
          have hq4 : q < 4 := by omega
          obtain ⟨hqi, hyk⟩ := HYG.out c j hlt hj
          rw [← hp, ← hq] at hqi hyk
          obtain ⟨x, hx⟩ : ∃ x, x = a.getD (4 * q + j) 0 := ⟨_, rfl⟩
          rw [← hx] at hyk
          have HYK := Lib.hid hyk
          have hx8 : x < 256 := by rw [hx]; exact ha.get _
          have hc1 : wr.cell? ⟨ga, 4 * q + j, none⟩ = some (.int .u8 x) := hri.cell (by rw [List.getElem?_toArray, bv_get _ _ (by rw [HLA.out]; exact hqi), ← hx])
          have hc2 : wr.cell? ⟨go, 4 * c + j, none⟩ = some ((bv (List.replicate 16 0)).getD (4 * c + j) undef) := hfi.cell (by rw [bv_length, List.length_replicate]; omega)
          have hfr : wr.frozen? ⟨go, 4 * c + j, none⟩ = false := hfi.free _
          have e1 : IntKind.i64.wrap ((n : Int) * (j : Int)) = (p : Int) := by
            rw [show ((n : Int) * (j : Int)) = (p : Int) from by rw [hp]; simp]
            exact IntWalk.i64_in _ (by omega)
          have e2 : ((c : Int) + (p : Int)) % 4 = (q : Int) := by omega
          clear hx hp hq hyk
          go_wp2_with fail
          go_roundw
          case rel => exact ⟨j + 1, by omega, by go_num, hfi.put HYK.out, hri.other n2 _, hzi.other n3 _, hbi.setCell (by exact b3) _⟩
          case measure => simp [intOf]; omega
        · obtain rfl : j = 4 := by omega
          go_wp2_with fail
          go_roundw
          case rel => exact ⟨c + 1, by omega, by go_num, hfi, hri, hzi, hbi⟩
          case measure => simp [intOf]; omega
    · obtain rfl : c = 4 := by omega
      have hro := hfk.done (by rw [bv_length, List.length_replicate]; exact Nat.le_refl _)
      have hyl : (bv ys).length = 16 := by rw [bv_length, HYL.out]
      have hgw := hzk.lt
      go_wp2_with (first
        | (apply wpList_loadRow hro hyl Try.underlying49 size_a16; rfl; rfl; rfl)
        | (apply wpList_storeRow hzk (bv ys).toArray; rfl; rfl; rfl; rfl; (rw [List.size_toArray, hyl]; exact size_a16); (rw [List.size_toArray, List.size_toArray, hyl, bv_length, List.length_replicate]); exact bv_all ys; intro w4 hw4 hr4 hs4))
      refine ret_row rfl gz _ (bv ys).toArray (0, 0) _ rfl hr4 rfl Try.underlying49 rfl (by rw [List.size_toArray, hyl]; exact size_a16) ?_
      rw [hw4]
      exact ⟨rfl, hbk.trans (below_row _ b2)⟩


theorem put_calls (a : List Nat) (ha : Bytes a) (hla : a.length = 16) (F : FuncId) (f : Nat → Nat) (hcf : ∀ args w, (callFunc F args).run Try.prog w = .ok (.enter F args) w) (hF : ∀ (x : Nat) (w : World), x < 256 → Calls Try.prog F #[.int .u8 x] w (RetB (.int .u8 (f x)) w)) (w : World) :
    Calls Try.prog 111 #[blk a, .func (.func F) #[] #[]] w (RetB (blk (a.map f)) w) := by
  obtain ⟨ys, hys⟩ : ∃ ys, ys = a.map f := ⟨_, rfl⟩
  have hyl : ys.length = 16 := by rw [hys, List.length_map, hla]
  have hyg : ∀ k, k < 16 → (bv ys)[k]? = some (.int .u8 ((f (a.getD k 0) : Nat) : Int)) := by
    intro k hk
    rw [bv_get _ _ (by omega), hys]
    simp [List.getElem?_eq_getElem (show k < a.length by omega)]
  have HYG := Lib.hid hyg
  have HF := Lib.hid hF
  rw [← hys]
  clear hys hyg hF
  obtain ⟨va, hva⟩ : ∃ va, va = blk a := ⟨_, rfl⟩
  rw [← hva]
  go_enter Try.func111, Try.ntmps111
  go_wp2_with (first
    | (apply wpList_boxR va; rfl; rfl; rfl; intro ga w1 hga1 hga2 hra hb1)
    | (apply wpList_allocR _ _ zinfo_a16; rfl; rfl; intro gz w3 hgz1 hgz2 hrz hb3))
  have hra3 := hra.next hb3
  have hwb : Below w.heap.size w w3 := hb1.trans (hb3.mono hb1.size)
  have hs1 := hb1.size
  rw [hva, cells_blk] at hra3
  rw [zero16] at hrz
  have hgg : ga ≠ gz ∧ w.heap.size ≤ ga ∧ w.heap.size ≤ gz := ⟨by omega, by omega, by omega⟩
  obtain ⟨n1, b1, b2⟩ := hgg
  have hf0 : FillRow w3 ga 49 (bv ys) (bv a) 0 := .start hra3 (by rw [bv_length, bv_length, hyl, hla])
  have HLA := Lib.hid hla
  have HYL := Lib.hid hyl
  clear hra hb1 hb3 hra3 hs1 hga1 hga2 hgz1 hgz2 hva hla hyl
  go_loopw [6] (fun i wr => ∃ k : Nat, k ≤ 16 ∧ i = .int .i64 k ∧ FillRow wr ga 49 (bv ys) (bv a) k ∧ Row wr gz 49 (bv (List.replicate 16 0)).toArray ∧ Below w.heap.size w wr) (fun i _ => 16 - (intOf i).toNat)
  case atStart => exact ⟨0, by omega, rfl, hf0, hrz, hwb⟩
  case round =>
    obtain ⟨k, hk, rfl, hfk, hzk, hbk⟩ := hrel
    clear hf0 hrz hwb
    by_cases hlt : k < 16
    · obtain ⟨x, hx⟩ : ∃ x, x = a.getD k 0 := ⟨_, rfl⟩
      have hx8 : x < 256 := by rw [hx]; exact ha.get k
      have hyk := HYG.out k hlt
      rw [← hx] at hyk
      have HYK := Lib.hid hyk
      have C1 : ∀ w, Calls Try.prog F #[.int .u8 x] w (RetB (.int .u8 (f x)) w) := fun w => HF.out x w hx8
      have HC1 := Lib.hid C1
      have hc1 : wr.cell? ⟨ga, k, none⟩ = some (.int .u8 x) := by
        have h := hfk.cell (by rw [bv_length, HLA.out]; exact hlt)
        rw [List.getD_eq_getElem?_getD, bv_get _ _ (by rw [HLA.out]; exact hlt), ← hx] at h
        exact h
      have hbs := hbk.size
      clear hx hyk C1
      go_wp2_with (first
        | (refine (HC1.out _).mono ?_; rintro e w2 ⟨rfl, hb2⟩; have hf2 := hfk.next hb2; have hfr2 := hf2.free k; have hz2 := hzk.next hb2; have hbk2 := hbk.trans (hb2.mono hbs); have hc2 := hf2.cell (by rw [bv_length, HLA.out]; exact hlt)))
      go_roundw
      case rel => exact ⟨k + 1, by omega, by go_num, hf2.put HYK.out, hz2.other (Ne.symm n1) _, hbk2.setCell (by exact b1) _⟩
      case measure => simp [intOf]; omega
    · obtain rfl : k = 16 := by omega
      have hra := hfk.done (by rw [bv_length, HLA.out]; exact Nat.le_refl _)
      have hyl : (bv ys).length = 16 := by rw [bv_length, HYL.out]
      have hgw := hzk.lt
      go_wp2_with (first
        | (apply wpList_loadRow hra hyl Try.underlying49 size_a16; rfl; rfl; rfl)
        | (apply wpList_storeRow hzk (bv ys).toArray; rfl; rfl; rfl; rfl; (rw [List.size_toArray, hyl]; exact size_a16); (rw [List.size_toArray, List.size_toArray, hyl, bv_length, List.length_replicate]); exact bv_all ys; intro w4 hw4 hr4 hs4))
      refine ret_row rfl gz _ (bv ys).toArray (0, 0) _ rfl hr4 rfl Try.underlying49 rfl (by rw [List.size_toArray, hyl]; exact size_a16) ?_
      rw [hw4]
      exact ⟨rfl, hbk.trans (below_row _ b2)⟩

theorem callFunc_sub (args : Array Value) (w : World) : (callFunc 29 args).run Try.prog w = .ok (.enter 29 args) w := by
  first | rfl | (go_simp; done) | sorry
theorem put_sub_calls (a : List Nat) (ha : Bytes a) (hla : a.length = 16) (w : World) : Calls Try.prog 111 #[blk a, .func (.func 29) #[] #[]] w (RetB (blk (a.map sb)) w) :=
  put_calls a ha hla _ sb callFunc_sub (fun x w hx => (sub_calls x rfl hx w)) w
end Go.Proofs.Ytfinekmegiengaa
