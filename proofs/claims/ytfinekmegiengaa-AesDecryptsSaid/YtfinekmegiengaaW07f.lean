/- The walks of layer 7: a column, mixed and unmixed; a block's columns. -/
import Derived.Test.YtfinekmegiengaaW07e
namespace Go.Proofs.Ytfinekmegiengaa
open Go.RowKit Nep
set_option maxRecDepth 100000
set_option linter.unusedVariables false
set_option linter.unusedSimpArgs false
set_option maxHeartbeats 1000000

theorem mix_calls (c : List Nat) (hc : Bytes c) (hlc : c.length = 4) (w : World) :
    Calls Try.prog 113 #[blk c] w (RetB (blk (mixC [2, 3, 1, 1] c)) w) := by
  have C1 : ∀ w, Calls Try.prog 148 #[.agg (bv c).toArray, .agg #[.int .u8 2, .int .u8 3, .int .u8 1, .int .u8 1]] w (RetB (blk (mixC [2, 3, 1, 1] c)) w) := fun w => turned_calls c [2, 3, 1, 1] hc (by decide) hlc rfl w
  have hyl : (bv (mixC [2, 3, 1, 1] c)).length = 4 := by rw [bv_length, mixC_length]
  generalize mixC [2, 3, 1, 1] c = ys at *
  have hcl : (bv c).length = 4 := by rw [bv_length, hlc]
  have HC1 := Lib.hid C1
  clear C1
  obtain ⟨vc, hvc⟩ : ∃ vc, vc = blk c := ⟨_, rfl⟩
  rw [← hvc]
  go_enter Try.func113, Try.ntmps113
  go_wp2_with (first
    | (apply wpList_boxR vc; rfl; rfl; rfl; intro ga w1 hga1 hga2 hra hb1; rw [hvc, cells_blk] at hra)
    | (apply wpList_allocR _ _ zinfo_a4; rfl; rfl; intro gz w2 hgz1 hgz2 hrz hb2; have hra2 := hra.next hb2; rw [zero4] at hrz)
    | (apply wpList_loadRow hra2 hcl Try.underlying132 size_a4; rfl; rfl; rfl)
    | (go_at_call 148; refine (HC1.out _).mono ?_; rintro e w3 ⟨rfl, hb3⟩; have hrz3 := hrz.next hb3)
    | (apply wpList_storeRow hrz3 (bv ys).toArray; rfl; rfl; rfl; rfl; (rw [List.size_toArray, hyl]; exact size_a4); (rw [List.size_toArray, List.size_toArray, hyl, bv_length, List.length_replicate]); exact bv_all ys; intro w5 hw5 hr5 hs5))
  refine ret_row rfl gz _ (bv ys).toArray (0, 0) _ rfl hr5 rfl Try.underlying132 rfl (by rw [List.size_toArray, hyl]; exact size_a4) ?_
  rw [hw5]
  have hs1 := hb1.size
  have hs2 := hb2.size
  exact ⟨rfl, (hb1.trans ((hb2.mono hs1).trans (hb3.mono (by omega)))).trans (below_row _ (by omega))⟩

theorem unmix_calls (c : List Nat) (hc : Bytes c) (hlc : c.length = 4) (w : World) :
    Calls Try.prog 118 #[blk c] w (RetB (blk (mixC [14, 11, 13, 9] c)) w) := by
  have C1 : ∀ w, Calls Try.prog 148 #[.agg (bv c).toArray, .agg #[.int .u8 14, .int .u8 11, .int .u8 13, .int .u8 9]] w (RetB (blk (mixC [14, 11, 13, 9] c)) w) := fun w => turned_calls c [14, 11, 13, 9] hc (by decide) hlc rfl w
  have hyl : (bv (mixC [14, 11, 13, 9] c)).length = 4 := by rw [bv_length, mixC_length]
  generalize mixC [14, 11, 13, 9] c = ys at *
  have hcl : (bv c).length = 4 := by rw [bv_length, hlc]
  have HC1 := Lib.hid C1
  clear C1
  obtain ⟨vc, hvc⟩ : ∃ vc, vc = blk c := ⟨_, rfl⟩
  rw [← hvc]
  go_enter Try.func118, Try.ntmps118
  go_wp2_with (first
    | (apply wpList_boxR vc; rfl; rfl; rfl; intro ga w1 hga1 hga2 hra hb1; rw [hvc, cells_blk] at hra)
    | (apply wpList_allocR _ _ zinfo_a4; rfl; rfl; intro gz w2 hgz1 hgz2 hrz hb2; have hra2 := hra.next hb2; rw [zero4] at hrz)
    | (apply wpList_loadRow hra2 hcl Try.underlying132 size_a4; rfl; rfl; rfl)
    | (go_at_call 148; refine (HC1.out _).mono ?_; rintro e w3 ⟨rfl, hb3⟩; have hrz3 := hrz.next hb3)
    | (apply wpList_storeRow hrz3 (bv ys).toArray; rfl; rfl; rfl; rfl; (rw [List.size_toArray, hyl]; exact size_a4); (rw [List.size_toArray, List.size_toArray, hyl, bv_length, List.length_replicate]); exact bv_all ys; intro w5 hw5 hr5 hs5))
  refine ret_row rfl gz _ (bv ys).toArray (0, 0) _ rfl hr5 rfl Try.underlying132 rfl (by rw [List.size_toArray, hyl]; exact size_a4) ?_
  rw [hw5]
  have hs1 := hb1.size
  have hs2 := hb2.size
  exact ⟨rfl, (hb1.trans ((hb2.mono hs1).trans (hb3.mono (by omega)))).trans (below_row _ (by omega))⟩

theorem columns_calls (b m : List Nat) (hb : Bytes b) (hlb : b.length = 16) (F : FuncId) (hcf : ∀ args w, (callFunc F args).run Try.prog w = .ok (.enter F args) w)
    (hF : ∀ (c : List Nat) (w : World), Bytes c → c.length = 4 → Calls Try.prog F #[blk c] w (RetB (blk (mixC m c)) w)) (w : World) :
    Calls Try.prog 112 #[blk b, .func (.func F) #[] #[]] w (RetB (blk (mixL m b)) w) := by
  have HF := Lib.hid hF
  clear hF
  obtain ⟨vb, hvb⟩ : ∃ vb, vb = blk b := ⟨_, rfl⟩
  rw [← hvb]
  go_enter Try.func112, Try.ntmps112
  go_wp2_with (first
    | (apply wpList_boxR vb; rfl; rfl; rfl; intro ga w1 hga1 hga2 hra hb1)
    | (apply wpList_allocR (w := w1) _ _ zinfo_a16; rfl; rfl; intro gz w2 hgz1 hgz2 hrz hb2)
    | (apply wpList_allocR (w := w2) _ _ zinfo_a16; rfl; rfl; intro go w3 hgo1 hgo2 hro hb3))
  have hra3 := (hra.next hb2).next hb3
  have hrz3 := hrz.next hb3
  have hwb : Below w.heap.size w w3 := hb1.trans ((hb2.mono hb1.size).trans (hb3.mono (Nat.le_trans hb1.size hb2.size)))
  have hs1 := hb1.size
  have hs2 := hb2.size
  rw [hvb, cells_blk] at hra3
  rw [zero16] at hrz3 hro
  rw [← colP_zero m b] at hro
  have hgg : ga ≠ gz ∧ ga ≠ go ∧ gz ≠ go ∧ w.heap.size ≤ ga ∧ w.heap.size ≤ gz ∧ w.heap.size ≤ go := ⟨by omega, by omega, by omega, by omega, by omega, by omega⟩
  obtain ⟨n1, n2, n3, b1, b2, b3⟩ := hgg
  have HLB := Lib.hid hlb
  clear hra hrz hb1 hb2 hb3 hs1 hs2 hga1 hga2 hgz1 hgz2 hgo1 hgo2 hvb hlb
  go_loopw [8] (fun i wr => ∃ n : Nat, n ≤ 4 ∧ i = .int .i64 n ∧ Row wr go 49 (bv (colP m b n)).toArray ∧ Row wr ga 49 (bv b).toArray ∧ Row wr gz 49 (bv (List.replicate 16 0)).toArray ∧ Below w.heap.size w wr) (fun i _ => 4 - (intOf i).toNat)
  case atStart => exact ⟨0, by omega, rfl, hro, hra3, hrz3, hwb⟩
  case round =>
    obtain ⟨n, hn, rfl, hfk, hak, hzk, hwk⟩ := hrel
    clear hro hra3 hrz3 hwb
    by_cases hlt : n < 4
    · obtain ⟨col, hcol⟩ : ∃ col, col = (b.drop (4 * n)).take 4 := ⟨_, rfl⟩
      have hcl : col.length = 4 := by rw [hcol, List.length_take, List.length_drop, HLB.out]; omega
      have hcb : Bytes col := by rw [hcol]; exact (hb.drop _).take _
      have hcc : ∀ i x, (bv col)[i]? = some x → wr.cell? ((⟨ga, 4 * n, none⟩ : Addr).add i) = some x := by
        intro i x hx
        rw [Addr.add_lit]
        refine hak.cell ?_
        rw [List.getElem?_toArray]
        rw [hcol, ← bv_take, ← bv_drop, List.getElem?_take] at hx
        split at hx
        · rw [List.getElem?_drop] at hx; exact hx
        · cases hx
      have hnx := colP_next m b n hlt
      rw [← hcol] at hnx
      have HNX := Lib.hid hnx
      have C1 : ∀ w, Calls Try.prog F #[.agg (bv col).toArray] w (RetB (blk (mixC m col)) w) := fun w => HF.out col w hcb hcl
      have hyl : (bv (mixC m col)).length = 4 := by rw [bv_length, mixC_length]
      obtain ⟨ys, hys⟩ : ∃ ys, ys = mixC m col := ⟨_, rfl⟩
      rw [← hys] at C1 hyl
      have HYS := Lib.hid hys
      have HC1 := Lib.hid C1
      have hbs := hwk.size
      have hcl' : (bv col).length = 4 := by rw [bv_length, hcl]
      clear hcol hnx C1 hys
      go_wp2_with (first
        | (apply wpList_cutArrL (4 * n) (4 * n + 4) (4 * n + 4); rfl; rfl; exact Try.underlying49; exact size_u8; rfl; exact .inr ⟨_, _, rfl, by omega⟩; exact .inr ⟨_, _, rfl, by omega⟩; exact .inr ⟨_, _, rfl, by omega, by omega, by omega⟩; omega; omega; omega)
        | (apply wpList_arrL; rfl; rfl; exact Try.underlying132; rfl; omega)
        | (refine wpList_loadArr (by rfl) rfl Try.underlying132 size_a4 rfl (bv col) hcl' hcc ?_)
        | (refine (HC1.out _).mono ?_; rintro e w3 ⟨rfl, hb3⟩)
        | (apply wpList_allocR _ _ zinfo_a4; rfl; rfl; intro gt w4 hgt1 hgt2 hrt hb4; rw [zero4] at hrt)
        | (apply wpList_storeRow hrt (bv ys).toArray; rfl; rfl; rfl; rfl; (rw [List.size_toArray, hyl]; exact size_a4); (rw [List.size_toArray, List.size_toArray, hyl, bv_length, List.length_replicate]); exact bv_all ys; intro w5 hw5 hr5 hs5))
      have hgo : go ≠ gt := fun h => by have := hfk.lt; have := hb3.size; omega
      have hga : ga ≠ gt := fun h => by have := hak.lt; have := hb3.size; omega
      have hgz : gz ≠ gt := fun h => by have := hzk.lt; have := hb3.size; omega
      have hgt0 : w.heap.size ≤ gt := by have := hb3.size; omega
      have hf5 : Row w5.drew go 49 (bv (colP m b n)).toArray := by rw [hw5]; exact (heap_setRow_other _ _ _ _ hgo).trans ((hfk.next hb3).next hb4)
      have ha5 : Row w5.drew ga 49 (bv b).toArray := by rw [hw5]; exact (heap_setRow_other _ _ _ _ hga).trans ((hak.next hb3).next hb4)
      have hz5 : Row w5.drew gz 49 (bv (List.replicate 16 0)).toArray := by rw [hw5]; exact (heap_setRow_other _ _ _ _ hgz).trans ((hzk.next hb3).next hb4)
      have hbb5 : Below w.heap.size w w5.drew := by
        rw [hw5]
        exact ((hwk.trans ((hb3.mono hbs).trans (hb4.mono (by have := hb3.size; omega)))).trans (below_row _ hgt0)).drew
      have hr5' : Row w5.drew gt 132 (bv ys).toArray := hr5
      clear hfk hak hzk hwk hb3 hb4 hrt hw5 hr5 hcc hs5
      refine wp_region_still_tail 4 (by kernel_rfl) (by kernel_rfl) ?_
      simp only [List.take_succ_cons, List.take_zero, List.drop_succ_cons, List.drop_zero]
      still_step
      still_step
      apply wpStill_cutArr (4 * n) 16 16
      · rfl
      · rfl
      · exact Try.underlying49
      · exact size_u8
      · rfl
      · exact .inr ⟨_, _, rfl, by rw [IntWalk.i64_in _ (by omega)]; omega⟩
      · exact .inl ⟨rfl, rfl, rfl⟩
      · exact .inl ⟨rfl, rfl⟩
      · omega
      · omega
      · omega
      apply wpStill_cutArr 0 4 4
      · rfl
      · rfl
      · exact Try.underlying132
      · exact size_u8
      · rfl
      · exact .inl ⟨rfl, rfl⟩
      · exact .inl ⟨rfl, rfl, rfl⟩
      · exact .inl ⟨rfl, rfl⟩
      · omega
      · omega
      · omega
      refine wpStill_nil ?_
      change wpList _ _ _ _ _ w5.drew
      generalize w5.drew = w6 at *
      have hys4 : RdS (gt + 1) 1 w6 (.slice (some ⟨gt, 0, none⟩) (4 - 0) (4 - 0)) 4 (bv ys) := RdS.of_row hr5' (n := 4) (s := 1) (cap := 4) (by rw [List.size_toArray, hyl]) (Nat.le_refl _)
      apply wpList_copy (by rfl) rfl Try.underlying28 size_u8 rfl hf5 rfl hys4 (bv_oneCell ys) (by omega) (by rw [List.size_toArray, bv_length, colP_length _ _ _ hn]; omega)
      have hnx := HNX.out
      rw [← HYS.out] at hnx
      have heq : ((bv (colP m b n)).toArray.toList.take (4 * n) ++ bv ys ++ (bv (colP m b n)).toArray.toList.drop (4 * n + 4)).toArray = (bv (colP m b (n + 1))).toArray := by
        rw [← hnx, bv_append, bv_append, bv_take, bv_drop]
      rw [heq]
      have hf7 : Row (w6.setRow go (bv (colP m b (n + 1))).toArray) go 49 (bv (colP m b (n + 1))).toArray := heap_setRow_same _ _ _ _ _ hf5
      have ha7 : Row (w6.setRow go (bv (colP m b (n + 1))).toArray) ga 49 (bv b).toArray := (heap_setRow_other _ _ _ _ n2).trans ha5
      have hz7 : Row (w6.setRow go (bv (colP m b (n + 1))).toArray) gz 49 (bv (List.replicate 16 0)).toArray := (heap_setRow_other _ _ _ _ n3).trans hz5
      have hb7 : Below w.heap.size w (w6.setRow go (bv (colP m b (n + 1))).toArray) := hbb5.trans (below_row _ b3)
      simp only [Act.put, List.setIfInBounds_toArray, List.set_cons_zero, List.set_cons_succ]
      generalize w6.setRow go (bv (colP m b (n + 1))).toArray = w7 at *
      clear hf5 ha5 hz5 hbb5 hys4 hr5' heq hnx
      go_wp2_with fail
      go_roundw
      case rel => exact ⟨n + 1, by omega, by go_num, hf7, ha7, hz7, hb7⟩
      case measure => simp [intOf]; omega
    · obtain rfl : n = 4 := by omega
      rw [colP_full] at hfk
      have hyl : (bv (mixL m b)).length = 16 := by rw [bv_length]; exact mixN_length m b 4
      generalize mixL m b = ys at *
      go_wp2_with (first
        | (apply wpList_loadRow hfk hyl Try.underlying49 size_a16; rfl; rfl; rfl)
        | (apply wpList_storeRow hzk (bv ys).toArray; rfl; rfl; rfl; rfl; (rw [List.size_toArray, hyl]; exact size_a16); (rw [List.size_toArray, List.size_toArray, hyl, bv_length, List.length_replicate]); exact bv_all ys; intro w5 hw5 hr5 hs5))
      refine ret_row rfl gz _ (bv ys).toArray (0, 0) _ rfl hr5 rfl Try.underlying49 rfl (by rw [List.size_toArray, hyl]; exact size_a16) ?_
      rw [hw5]
      exact ⟨rfl, hwk.trans (below_row _ b2)⟩
end Go.Proofs.Ytfinekmegiengaa
