/- The walks of layer 7: a column, mixed; a block's columns. -/
import Derived.Test.YtfinekmegiengaaW07d
import Derived.Test.YtfinekmegiengaaPlainF
namespace Go.Proofs.Ytfinekmegiengaa
open Go.RowKit Nep
set_option maxRecDepth 100000
set_option linter.unusedVariables false
set_option linter.unusedSimpArgs false
set_option maxHeartbeats 1000000

theorem zero4 : (Value.agg (Array.replicate 4 (.int .u8 0))).cells = (bv (List.replicate 4 0)).toArray := rfl
theorem zinfo_a4 : (Try.prog.info? 132).map (fun i => (i.zero, i.size)) = some (some (.agg (Array.replicate 4 (.int .u8 0))), 4) := by kernel_rfl
theorem size_a4 : (Try.prog.info? 132).map (·.size) = some 4 := by kernel_rfl

theorem index4 (c : Array Value) (a : Nat) (v : Value) (ha : a < 4) (hv : c[a]? = some v) (w : World) : (Instr.index 132 (.agg c) (.int .i64 a)).run Try.prog w = .ok v w := 
  run_index_agg c a v w Try.underlying132 (by kernel_rfl) (by kernel_rfl) ha hv

theorem turned_calls (c m : List Nat) (hc : Bytes c) (hm : ∀ x ∈ m, x < 16) (hlc : c.length = 4) (hlm : m.length = 4) (w : World) :
    Calls Try.prog 148 #[blk c, blk m] w (RetB (blk (mixC m c)) w) := by
  have hmg : ∀ k, m.getD k 0 < 16 := fun k => by
    rcases Nat.lt_or_ge k m.length with h | h
    · rw [List.getD_eq_getElem?_getD, List.getElem?_eq_getElem h]; exact hm _ (List.getElem_mem _)
    · rw [List.getD_eq_getElem?_getD, List.getElem?_eq_none h]; simp
  obtain ⟨vc, hvc⟩ : ∃ vc, vc = blk c := ⟨_, rfl⟩
  obtain ⟨vm, hvm⟩ : ∃ vm, vm = blk m := ⟨_, rfl⟩
  rw [← hvc, ← hvm]
  go_enter Try.func148, Try.ntmps148
  go_wp2_with (first
    | (apply wpList_boxR vc; rfl; rfl; rfl; intro ga w1 hga1 hga2 hra hb1)
    | (apply wpList_boxR vm; rfl; rfl; rfl; intro gb w2 hgb1 hgb2 hrb hb2)
    | (apply wpList_allocR (w := w2) _ _ zinfo_a4; rfl; rfl; intro gz w3 hgz1 hgz2 hrz hb3)
    | (apply wpList_allocR (w := w3) _ _ zinfo_a4; rfl; rfl; intro go w4 hgo1 hgo2 hro hb4))
  have hra4 := ((hra.next hb2).next hb3).next hb4
  have hrb4 := (hrb.next hb3).next hb4
  have hrz4 := hrz.next hb4
  have hs1 := hb1.size
  have hs2 := hb2.size
  have hs3 := hb3.size
  have hwb : Below w.heap.size w w4 := hb1.trans ((hb2.mono hs1).trans ((hb3.mono (by omega)).trans (hb4.mono (by omega))))
  rw [hvc, cells_blk] at hra4
  rw [hvm, cells_blk] at hrb4
  rw [zero4] at hrz4 hro
  rw [← mixP_zero m c] at hro
  have hgg : ga ≠ go ∧ gb ≠ go ∧ gz ≠ go ∧ w.heap.size ≤ go ∧ w.heap.size ≤ gz := ⟨by omega, by omega, by omega, by omega, by omega⟩
  obtain ⟨n1, n2, n3, b1, b2⟩ := hgg
  have HLC := Lib.hid hlc
  have HLM := Lib.hid hlm
  clear hra hrb hrz hb1 hb2 hb3 hb4 hs1 hs2 hs3 hga1 hga2 hgb1 hgb2 hgz1 hgz2 hgo1 hgo2 hvc hvm hlc hlm
  go_loopw [9] (fun i wr => ∃ n : Nat, n ≤ 4 ∧ i = .int .i64 n ∧ Row wr go 132 (bv (mixP m c n 0)).toArray ∧ Row wr ga 132 (bv c).toArray ∧ Row wr gb 132 (bv m).toArray ∧ Row wr gz 132 (bv (List.replicate 4 0)).toArray ∧ Below w.heap.size w wr) (fun i _ => 4 - (intOf i).toNat)
  case atStart => exact ⟨0, by omega, rfl, hro, hra4, hrb4, hrz4, hwb⟩
  case round =>
    obtain ⟨n, hn, rfl, hfk, hak, hbk, hzk, hwk⟩ := hrel
    clear hro hra4 hrb4 hrz4 hwb
    by_cases hlt : n < 4
    · obtain ⟨wo, hwo⟩ : ∃ wo : World, wo = wr := ⟨_, rfl⟩
      have hml : (bv m).length = 4 := by rw [bv_length, HLM.out]
      go_wp2_with (first
        | (apply wpList_loadRow hbk hml Try.underlying132 size_a4; rfl; rfl; rfl))
      go_loopw [13] (fun i wi => ∃ k : Nat, k ≤ 4 ∧ i = .int .i64 k ∧ Row wi go 132 (bv (mixP m c n k)).toArray ∧ Row wi ga 132 (bv c).toArray ∧ Row wi gb 132 (bv m).toArray ∧ Row wi gz 132 (bv (List.replicate 4 0)).toArray ∧ Below w.heap.size w wi) (fun i _ => 4 - (intOf i).toNat)
      case atStart => exact ⟨0, by omega, rfl, hfk, hak, hbk, hzk, hwk⟩
      case round =>
        obtain ⟨k, hk4, rfl, hfi, hai, hbi, hzi, hwi⟩ := hrel
        clear hfk hak hbk hzk hwk
        by_cases hk : k < 4
        · obtain ⟨q, hq⟩ : ∃ q, q = (n + k) % 4 := ⟨_, rfl⟩
          have hq4 : q < 4 := by omega
          obtain ⟨x, hx⟩ : ∃ x, x = m.getD k 0 := ⟨_, rfl⟩
          obtain ⟨y, hy⟩ : ∃ y, y = c.getD q 0 := ⟨_, rfl⟩
          obtain ⟨z, hz⟩ : ∃ z, z = mixA m c n k := ⟨_, rfl⟩
          have hx16 : x < 16 := by rw [hx]; exact hmg k
          have hy8 : y < 256 := by rw [hy]; exact hc.get q
          have hz8 : z < 256 := by rw [hz]; exact mixA_lt _ _ _ _
          obtain ⟨p, hp⟩ : ∃ p, p = rmul x y := ⟨_, rfl⟩
          have hp8 : p < 256 := by rw [hp]; exact rmul_lt _ _
          have hnext : mixA m c n (k + 1) = z ^^^ p := by rw [hz, hp, hx, hy, hq]; rfl
          have hset := mixP_set m c n k hlt
          rw [hnext] at hset
          have hc0 : wr.drew.cell? ⟨go, n, none⟩ = some (.int .u8 z) := hfi.cell (by
            rw [List.getElem?_toArray]
            unfold bv
            rw [List.getElem?_map, mixP_get m c n k hlt, ← hz]
            rfl)
          have hc1 : wr.drew.cell? ⟨ga, q, none⟩ = some (.int .u8 y) := hai.cell (by rw [List.getElem?_toArray, bv_get _ _ (by rw [HLC.out]; exact hq4), ← hy])
          have hfr : wr.drew.frozen? ⟨go, n, none⟩ = false := hfi.free n
          obtain ⟨s, hs⟩ : ∃ s, s = n + k := ⟨_, rfl⟩
          have e3 : IntKind.i64.wrap ((n : Int) + (k : Int)) = (s : Int) := by rw [hs, IntWalk.i64_in _ (by omega)]; omega
          have e4 : ((s : Int)).tmod 4 = (q : Int) := by rw [Int.tmod_eq_emod_of_nonneg (by omega)]; omega
          have hq4i : (q : Int) < 4 := by omega
          have hidx : (bv m).toArray[k]? = some (.int .u8 x) := by rw [List.getElem?_toArray, bv_get _ _ (by rw [HLM.out]; exact hk), ← hx]
          have hix := fun w => index4 (bv m).toArray k _ hk hidx w
          have C1 : ∀ w, Calls Try.prog 147 #[.int .u8 x, .int .u8 y] w (RetP (.int .u8 p) w) := fun w => by
            rw [hp, ← fmul_eq x hx16 y hy8]
            exact fmul_calls x y rfl rfl (by omega) hy8 w
          have HC1 := Lib.hid C1
          have hx3 := u8_xor_nat z p hz8 hp8
          have HSET := Lib.hid hset
          clear hx hy hz hp hq hnext hset C1 hs
          go_wp2_with fail
          go_still_tail 13, (by kernel_rfl)
          still_call ((HC1.out _).mono (fun e w'' h => ⟨h.1, h.2.symm⟩))
          repeat still_step
          refine wpStill_nil ?_
          change wpList _ _ _ _ _ wr.drew
          have hfid : Row wr.drew go 132 (bv (mixP m c n k)).toArray := hfi
          have haid : Row wr.drew ga 132 (bv c).toArray := hai
          have hbid : Row wr.drew gb 132 (bv m).toArray := hbi
          have hzid : Row wr.drew gz 132 (bv (List.replicate 4 0)).toArray := hzi
          have hwid : Below w.heap.size w wr.drew := hwi.drew
          clear hfi hai hbi hzi hwi
          generalize wr.drew = wd at *
          go_wp2
          go_roundw
          case rel =>
            refine ⟨k + 1, by omega, by go_num, ?_, haid.other n1 _, hbid.other n2 _, hzid.other n3 _, hwid.setCell (by exact b1) _⟩
            have h := hfid.set n (.int .u8 ((z ^^^ p : Nat) : Int))
            rw [List.setIfInBounds_toArray] at h
            rw [← HSET.out]
            unfold bv at h ⊢
            rw [List.map_set]
            exact h
          case measure => simp [intOf]; omega
        · obtain rfl : k = 4 := by omega
          rw [mixP_next] at hfi
          go_wp2_with fail
          go_roundw
          case rel => exact ⟨n + 1, by omega, by go_num, hfi, hai, hbi, hzi, hwi⟩
          case measure => simp [intOf]; omega
    · obtain rfl : n = 4 := by omega
      rw [mixP_full] at hfk
      have hyl : (bv (mixC m c)).length = 4 := by rw [bv_length, mixC_length]
      generalize mixC m c = ys at *
      go_wp2_with (first
        | (apply wpList_loadRow hfk hyl Try.underlying132 size_a4; rfl; rfl; rfl)
        | (apply wpList_storeRow hzk (bv ys).toArray; rfl; rfl; rfl; rfl; (rw [List.size_toArray, hyl]; exact size_a4); (rw [List.size_toArray, List.size_toArray, hyl, bv_length, List.length_replicate]); exact bv_all ys; intro w5 hw5 hr5 hs5))
      refine ret_row rfl gz _ (bv ys).toArray (0, 0) _ rfl hr5 rfl Try.underlying132 rfl (by rw [List.size_toArray, hyl]; exact size_a4) ?_
      rw [hw5]
      exact ⟨rfl, hwk.trans (below_row _ b2)⟩
end Go.Proofs.Ytfinekmegiengaa
