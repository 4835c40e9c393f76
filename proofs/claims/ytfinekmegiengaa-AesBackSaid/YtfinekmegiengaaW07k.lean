/- The walks of the references of layers 5 to 7: rows shifted, a table turned, a column turned. -/
import Derived.Test.YtfinekmegiengaaW07j
import Derived.Test.YtfinekmegiengaaW07e
namespace Go.Proofs.Ytfinekmegiengaa
open Go.RowKit Nep
set_option maxRecDepth 100000
set_option linter.unusedVariables false
set_option linter.unusedSimpArgs false
set_option maxHeartbeats 1000000

theorem rshift_calls (v : Value) (b : List Nat) (n : Nat) {A : Int} (hA : A = n) (hn : n = 1 ∨ n = 3) (w : World) (hb : Bytes b) (hr : RdB w.heap.size w v b) (hl : b.length = 16) :
    Calls Try.prog 47 #[v, .int .i64 A] w (RetS (shL b n) w) := by
  have hr0 := hr
  obtain ⟨ys, hys⟩ : ∃ ys, ys = shL b n := ⟨_, rfl⟩
  obtain ⟨zs, hzs⟩ : ∃ zs, zs = bv (List.replicate 16 0) := ⟨_, rfl⟩
  have hyl : ys.length = 16 := by rw [hys, shL_length]
  have hzl : zs.length = 16 := by rw [hzs]; simp
  have hyg : ∀ k, k < 16 → ys.getD k 0 = b.getD (4 * ((k / 4 + n * (k % 4)) % 4) + k % 4) 0 := fun k hk => by rw [hys]; unfold shL; simp [hk]
  rw [← hys]
  have HYL := Lib.hid hyl
  have HZL := Lib.hid hzl
  have HL := Lib.hid hl
  clear hys
  have hn' : A = 1 ∧ n = 1 ∨ A = 3 ∧ n = 3 := by omega
  clear hn hA
  rcases hn' with ⟨rfl, rfl⟩ | ⟨rfl, rfl⟩
  all_goals
    have HYG := Lib.hid hyg
    go_enter Try.func47, Try.ntmps47
    go_wp2_with (first | (apply wpList_makeBytes (n := 16); rfl; rfl; rfl; rfl; omega; intro g w1 hg1 hg2 hrow hb1))
    have hf : FillRow w1 g 5 (bv ys) zs 0 := .start (by rw [hzs]; exact hrow) (by rw [hzl, bv_length, hyl])
    clear hzs hyl hzl hrow hr hl hyg
    go_loopw [6] (fun i wr => ∃ k : Nat, k ≤ 16 ∧ i = .int .i64 k ∧ FillRow wr g 5 (bv ys) zs k ∧ Below w.heap.size w wr) (fun i _ => 16 - (intOf i).toNat)
    case atStart => exact ⟨0, by omega, rfl, hf, hb1⟩
    case round =>
      obtain ⟨k, hk, rfl, hfk, hbk⟩ := hrel
      clear hf
      have hrk := hr0.mono hbk
      by_cases hlt : k < 16
      · have hyk := HYG.out k hlt
        generalize hj : 4 * ((k / 4 + _ * (k % 4)) % 4) + k % 4 = j at hyk
        have hj16 : j < b.length := by rw [HL.out]; omega
        obtain ⟨x, hxe⟩ : ∃ x, x = b.getD j 0 := ⟨_, rfl⟩
        have hx := hb.get j
        rw [← hxe] at hx hyk
        have HYK : (bv ys)[k]? = some (.int .u8 x) := by
          rw [bv_get _ _ (by have := HYL.out; omega), hyk]
        have e1 : ((b.getD j 0 : Nat) : Int) = x := by rw [hxe]
        have hc2 := hfk.cell (by have := HZL.out; omega)
        have hfr2 := hfk.free k
        have HYK' := Lib.hid HYK
        have HJ := Lib.hid hj
        have HE := Lib.hid e1
        have hlt2 := hfk.lt
        have hbs := hbk.size
        clear hxe HYK hj hyk e1
        go_wp2_with (first | (apply wpList_indexB hrk j hj16; rfl; rfl; rfl; rfl; (have := HJ.out; omega); rw [HE.out]; intro p hp hcell; clear hrk))
        go_roundw
        case rel => exact ⟨k + 1, by omega, by go_num, hfk.put HYK'.out, hbk.setCell (by exact hg1) _⟩
        case measure => simp [intOf]; omega
      · go_wp2_with fail
        go_ret
        obtain rfl : k = 16 := by omega
        exact RetS.of_row (hfk.done (by rw [HZL.out]; exact Nat.le_refl _)) hg1 hbk (by rw [HYL.out]; omega) HYL.out.symm

/-- a table, the other way round, of its first k bytes -/
def revT (t : List Nat) : Nat → List Nat
  | 0 => List.replicate 256 0
  | k + 1 => (revT t k).set (t.getD k 0) k
theorem revT_length (t : List Nat) (k : Nat) : (revT t k).length = 256 := by
  induction k with
  | zero => simp [revT]
  | succ k ih => simp [revT, ih]
theorem revT_all : revT sboxL 256 = backL := by decide +kernel
theorem revT_bytes (t : List Nat) : ∀ k, k ≤ 256 → Bytes (revT t k) := by
  intro k
  induction k with
  | zero => intro _ x hx; rw [revT] at hx; have := List.eq_of_mem_replicate hx; omega
  | succ k ih =>
    intro hk x hx
    rw [revT] at hx
    rcases List.mem_or_eq_of_mem_set hx with h | h
    · exact ih (by omega) x h
    · omega
theorem rturn_calls (v : Value) (t : List Nat) (w : World) (ht : Bytes t) (hr : RdB w.heap.size w v t) (hl : t.length = 256) :
    Calls Try.prog 119 #[v] w (RetS (revT t 256) w) := by
  have hr0 := hr
  have HL := Lib.hid hl
  clear hl
  go_enter Try.func119, Try.ntmps119
  go_wp2_with (first | (apply wpList_makeBytes (n := 256); rfl; rfl; rfl; rfl; omega; intro g w1 hg1 hg2 hrow hb1))
  have hrow0 : Row w1 g 5 (bv (revT t 0)).toArray := hrow
  clear hrow hr
  go_loopw [4] (fun i wr => ∃ k : Nat, k ≤ 256 ∧ i = .int .i64 k ∧ Row wr g 5 (bv (revT t k)).toArray ∧ Below w.heap.size w wr) (fun i _ => 256 - (intOf i).toNat)
  case atStart => exact ⟨0, by omega, rfl, hrow0, hb1⟩
  case round =>
    obtain ⟨k, hk, rfl, hfk, hbk⟩ := hrel
    clear hrow0
    have hrk := hr0.mono hbk
    by_cases hlt : k < 256
    · obtain ⟨x, hx⟩ : ∃ x, x = t.getD k 0 := ⟨_, rfl⟩
      have hx8 : x < 256 := hx ▸ ht.get k
      have e1 : ((t.getD k 0 : Nat) : Int) = x := by rw [hx]
      have hnext : revT t (k + 1) = (revT t k).set x k := by rw [hx]; rfl
      have hlen := revT_length t k
      have hc2 : wr.cell? ⟨g, x, none⟩ = some (.int .u8 (((revT t k).getD x 0 : Nat) : Int)) := hfk.cell (by rw [List.getElem?_toArray, bv_get _ _ (by omega)])
      have hfr2 := hfk.free x
      have hset := hfk.set x (.int .u8 (k : Int))
      have hset2 : Row (wr.setCell ⟨g, x, none⟩ (.int .u8 (k : Int))) g 5 (bv (revT t (k + 1))).toArray := by
        rw [hnext]
        rw [List.setIfInBounds_toArray] at hset
        unfold bv at hset ⊢
        rw [List.map_set]
        exact hset
      have hkt : k < t.length := by rw [HL.out]; exact hlt
      have hc : (k : Int) % 256 = k := by omega
      have HS := Lib.hid hset2
      have HE := Lib.hid e1
      have hlt2 := hfk.lt
      have hbs := hbk.size
      clear hset hset2 hnext hx e1 hlen
      go_wp2_with (first | (apply wpList_indexB hrk k hkt; rfl; rfl; rfl; rfl; rfl; rw [HE.out]; intro p hp hcell; clear hrk))
      go_roundw
      case rel => exact ⟨k + 1, by omega, by go_num, HS.out, hbk.setCell (by exact hg1) _⟩
      case measure => simp [intOf]; omega
    · go_wp2_with fail
      go_ret
      obtain rfl : k = 256 := by omega
      exact RetS.of_row hfk hg1 hbk (by rw [revT_length]; omega) (by rw [revT_length])

theorem mixP_put (m c : List Nat) (i : Nat) (hi : i < 4) : (mixP m c i 0).set i (mixA m c i 4) = mixP m c (i + 1) 0 := by
  rw [← mixP_next]
  apply List.ext_getElem?
  intro j
  rw [List.getElem?_set]
  unfold mixP
  by_cases hj : i = j
  · subst hj
    simp [hi]
  · rw [if_neg hj]
    simp only [List.getElem?_map]
    by_cases h4 : j < 4
    · simp [h4, show ¬ j = i by omega]
    · simp [h4]

theorem rturned05_calls (c m : List Nat) (hc : Bytes c) (hm : Bytes m) (hlc : c.length = 4) (hlm : m.length = 4) (w : World) :
    Calls Try.prog 149 #[blk c, blk m] w (RetB (blk (mixC m c)) w) := by
  obtain ⟨vc, hvc⟩ : ∃ vc, vc = blk c := ⟨_, rfl⟩
  obtain ⟨vm, hvm⟩ : ∃ vm, vm = blk m := ⟨_, rfl⟩
  rw [← hvc, ← hvm]
  go_enter Try.func149, Try.ntmps149
  go_wp2_with (first
    | (apply wpList_boxR vc; rfl; rfl; rfl; intro ga w1 hga1 hga2 hra hb1)
    | (apply wpList_boxR vm; rfl; rfl; rfl; intro gb w2 hgb1 hgb2 hrb hb2)
    | (apply wpList_allocR (w := w2) _ _ zinfo_a4; rfl; rfl; intro gz w3 hgz1 hgz2 hrz hb3)
    | (apply wpList_allocR (w := w3) _ _ zinfo_a4; rfl; rfl; intro go w4 hgo1 hgo2 hro hb4; rw [zero4] at hro)
    | (apply wpList_storeRow hro (bv (List.replicate 4 0)).toArray; rfl; rfl; rfl; rfl; exact size_a4; rfl; exact bv_all _; intro w5 hw5 hr5 hs5; have HW5 := Lib.hid hw5; clear hw5))
  have hb5 : Below w4.heap.size w4 w5 ∨ True := .inr trivial
  have hra4 := ((hra.next hb2).next hb3).next hb4
  have hrb4 := (hrb.next hb3).next hb4
  have hrz4 := hrz.next hb4
  have hs1 := hb1.size
  have hs2 := hb2.size
  have hs3 := hb3.size
  have hwb : Below w.heap.size w w4 := hb1.trans ((hb2.mono hs1).trans ((hb3.mono (by omega)).trans (hb4.mono (by omega))))
  have hra5 : Row w5 ga 132 vc.cells := by rw [HW5.out]; exact (heap_setRow_other _ _ _ _ (by omega)).trans hra4
  have hrb5 : Row w5 gb 132 vm.cells := by rw [HW5.out]; exact (heap_setRow_other _ _ _ _ (by omega)).trans hrb4
  have hrz5 : Row w5 gz 132 (Value.agg (Array.replicate 4 (.int .u8 0))).cells := by rw [HW5.out]; exact (heap_setRow_other _ _ _ _ (by omega)).trans hrz4
  have hwb5 : Below w.heap.size w w5 := by rw [HW5.out]; exact hwb.trans (below_row _ (by omega))
  rw [hvc, cells_blk] at hra5
  rw [hvm, cells_blk] at hrb5
  rw [zero4] at hrz5
  rw [← mixP_zero m c] at hr5
  have hgg : ga ≠ go ∧ gb ≠ go ∧ gz ≠ go ∧ w.heap.size ≤ go ∧ w.heap.size ≤ gz := ⟨by omega, by omega, by omega, by omega, by omega⟩
  obtain ⟨n1, n2, n3, b1, b2⟩ := hgg
  have HLC := Lib.hid hlc
  have HLM := Lib.hid hlm
  clear hra hrb hrz hb1 hb2 hb3 hb4 hb5 hs1 hs2 hs3 hga1 hga2 hgb1 hgb2 hgz1 hgz2 hgo1 hgo2 hvc hvm hlc hlm hra4 hrb4 hrz4 hwb hro hs5 HW5
  go_loopw [6] (fun i wr => ∃ n : Nat, n ≤ 4 ∧ i = .int .i64 n ∧ Row wr go 132 (bv (mixP m c n 0)).toArray ∧ Row wr ga 132 (bv c).toArray ∧ Row wr gb 132 (bv m).toArray ∧ Row wr gz 132 (bv (List.replicate 4 0)).toArray ∧ Below w.heap.size w wr) (fun i _ => 4 - (intOf i).toNat)
  case atStart => exact ⟨0, by omega, rfl, hr5, hra5, hrb5, hrz5, hwb5⟩
  case round =>
    obtain ⟨n, hn, rfl, hfk, hak, hbk, hzk, hwk⟩ := hrel
    clear hr5 hra5 hrb5 hrz5 hwb5
    by_cases hlt : n < 4
    · obtain ⟨q1, hq1⟩ : ∃ q, q = (n + 1) % 4 := ⟨_, rfl⟩
      obtain ⟨q2, hq2⟩ : ∃ q, q = (n + 2) % 4 := ⟨_, rfl⟩
      obtain ⟨q3, hq3⟩ : ∃ q, q = (n + 3) % 4 := ⟨_, rfl⟩
      have l1 : (q1 : Int) < 4 := by omega
      have l2 : (q2 : Int) < 4 := by omega
      have l3 : (q3 : Int) < 4 := by omega
      obtain ⟨y0, hy0⟩ : ∃ y, y = c.getD n 0 := ⟨_, rfl⟩
      obtain ⟨y1, hy1⟩ : ∃ y, y = c.getD q1 0 := ⟨_, rfl⟩
      obtain ⟨y2, hy2⟩ : ∃ y, y = c.getD q2 0 := ⟨_, rfl⟩
      obtain ⟨y3, hy3⟩ : ∃ y, y = c.getD q3 0 := ⟨_, rfl⟩
      obtain ⟨x0, hx0⟩ : ∃ x, x = m.getD 0 0 := ⟨_, rfl⟩
      obtain ⟨x1, hx1⟩ : ∃ x, x = m.getD 1 0 := ⟨_, rfl⟩
      obtain ⟨x2, hx2⟩ : ∃ x, x = m.getD 2 0 := ⟨_, rfl⟩
      obtain ⟨x3, hx3⟩ : ∃ x, x = m.getD 3 0 := ⟨_, rfl⟩
      obtain ⟨p0, hp0⟩ : ∃ p, p = rmul x0 y0 := ⟨_, rfl⟩
      obtain ⟨p1, hp1⟩ : ∃ p, p = rmul x1 y1 := ⟨_, rfl⟩
      obtain ⟨p2, hp2⟩ : ∃ p, p = rmul x2 y2 := ⟨_, rfl⟩
      obtain ⟨p3, hp3⟩ : ∃ p, p = rmul x3 y3 := ⟨_, rfl⟩
      obtain ⟨s1, hs1⟩ : ∃ s, s = p0 ^^^ p1 := ⟨_, rfl⟩
      obtain ⟨s2, hs2⟩ : ∃ s, s = s1 ^^^ p2 := ⟨_, rfl⟩
      obtain ⟨s3, hs3⟩ : ∃ s, s = s2 ^^^ p3 := ⟨_, rfl⟩
      have b8 : ∀ x y, rmul x y < 256 := rmul_lt
      have lp0 : p0 < 256 := by rw [hp0]; exact b8 _ _
      have lp1 : p1 < 256 := by rw [hp1]; exact b8 _ _
      have lp2 : p2 < 256 := by rw [hp2]; exact b8 _ _
      have lp3 : p3 < 256 := by rw [hp3]; exact b8 _ _
      have ls1 : s1 < 256 := by rw [hs1]; exact Nat.xor_lt_two_pow (n := 8) lp0 lp1
      have ls2 : s2 < 256 := by rw [hs2]; exact Nat.xor_lt_two_pow (n := 8) ls1 lp2
      have g1 : bits .xor .u8 (p0 : Int) (p1 : Int) = s1 := hs1 ▸ u8_xor_nat p0 p1 lp0 lp1
      have g2 : bits .xor .u8 (s1 : Int) (p2 : Int) = s2 := hs2 ▸ u8_xor_nat s1 p2 ls1 lp2
      have g3 : bits .xor .u8 (s2 : Int) (p3 : Int) = s3 := hs3 ▸ u8_xor_nat s2 p3 ls2 lp3
      have C0 : RowKit.Hid (∀ w, Calls Try.prog 146 #[.int .u8 x0, .int .u8 y0] w (RetP (.int .u8 p0) w)) := Lib.hid (fun w => by rw [hp0]; exact mul05 x0 y0 (hx0 ▸ hm.get 0) (hy0 ▸ hc.get n) w)
      have C1 : RowKit.Hid (∀ w, Calls Try.prog 146 #[.int .u8 x1, .int .u8 y1] w (RetP (.int .u8 p1) w)) := Lib.hid (fun w => by rw [hp1]; exact mul05 x1 y1 (hx1 ▸ hm.get 1) (hy1 ▸ hc.get q1) w)
      have C2 : RowKit.Hid (∀ w, Calls Try.prog 146 #[.int .u8 x2, .int .u8 y2] w (RetP (.int .u8 p2) w)) := Lib.hid (fun w => by rw [hp2]; exact mul05 x2 y2 (hx2 ▸ hm.get 2) (hy2 ▸ hc.get q2) w)
      have C3 : RowKit.Hid (∀ w, Calls Try.prog 146 #[.int .u8 x3, .int .u8 y3] w (RetP (.int .u8 p3) w)) := Lib.hid (fun w => by rw [hp3]; exact mul05 x3 y3 (hx3 ▸ hm.get 3) (hy3 ▸ hc.get q3) w)
      have cc : ∀ k, k < 4 → wr.drew.cell? ⟨ga, k, none⟩ = some (.int .u8 ((c.getD k 0 : Nat) : Int)) := fun k hk => Row.cell (w := wr.drew) hak (by rw [List.getElem?_toArray, bv_get _ _ (by rw [HLC.out]; exact hk)])
      have cm : ∀ k, k < 4 → wr.drew.cell? ⟨gb, k, none⟩ = some (.int .u8 ((m.getD k 0 : Nat) : Int)) := fun k hk => Row.cell (w := wr.drew) hbk (by rw [List.getElem?_toArray, bv_get _ _ (by rw [HLM.out]; exact hk)])
      have c0 := cc n hlt
      have c1 := cc q1 (by omega)
      have c2 := cc q2 (by omega)
      have c3 := cc q3 (by omega)
      have d0 := cm 0 (by omega)
      have d1 := cm 1 (by omega)
      have d2 := cm 2 (by omega)
      have d3 := cm 3 (by omega)
      rw [← hy0] at c0
      rw [← hy1] at c1
      rw [← hy2] at c2
      rw [← hy3] at c3
      rw [← hx0] at d0
      rw [← hx1] at d1
      rw [← hx2] at d2
      rw [← hx3] at d3
      have hnext : mixA m c n 4 = s3 := by
        rw [hs3, hs2, hs1, hp0, hp1, hp2, hp3, hx0, hx1, hx2, hx3, hy0, hy1, hy2, hy3, hq1, hq2, hq3]
        simp only [mixA, Nat.zero_xor, Nat.add_zero, Nat.mod_eq_of_lt hlt]
      have hset := mixP_put m c n hlt
      rw [hnext] at hset
      have hout : wr.drew.cell? ⟨go, n, none⟩ = some (.int .u8 (((mixP m c n 0).getD n 0 : Nat) : Int)) := Row.cell (w := wr.drew) hfk (by rw [List.getElem?_toArray, bv_get _ _ (by rw [mixP_length]; exact hlt)])
      have hfr : wr.drew.frozen? ⟨go, n, none⟩ = false := Row.free (w := wr.drew) hfk n
      obtain ⟨t1, ht1⟩ : ∃ t, t = n + 1 := ⟨_, rfl⟩
      obtain ⟨t2, ht2⟩ : ∃ t, t = n + 2 := ⟨_, rfl⟩
      obtain ⟨t3, ht3⟩ : ∃ t, t = n + 3 := ⟨_, rfl⟩
      have e1 : IntKind.i64.wrap ((n : Int) + 1) = (t1 : Int) := by rw [ht1, IntWalk.i64_in _ (by omega)]; omega
      have e2 : IntKind.i64.wrap ((n : Int) + 2) = (t2 : Int) := by rw [ht2, IntWalk.i64_in _ (by omega)]; omega
      have e3 : IntKind.i64.wrap ((n : Int) + 3) = (t3 : Int) := by rw [ht3, IntWalk.i64_in _ (by omega)]; omega
      have f1 : ((t1 : Int)).tmod 4 = (q1 : Int) := by rw [Int.tmod_eq_emod_of_nonneg (by omega)]; omega
      have f2 : ((t2 : Int)).tmod 4 = (q2 : Int) := by rw [Int.tmod_eq_emod_of_nonneg (by omega)]; omega
      have f3 : ((t3 : Int)).tmod 4 = (q3 : Int) := by rw [Int.tmod_eq_emod_of_nonneg (by omega)]; omega
      have HSET := Lib.hid hset
      clear hset hnext hs1 hs2 hs3 hp0 hp1 hp2 hp3 hx0 hx1 hx2 hx3 hy0 hy1 hy2 hy3 hq1 hq2 hq3 ht1 ht2 ht3 cc cm b8
      go_wp2_with fail
      go_still_tail 35, (by kernel_rfl)
      still_call ((C0.out _).mono (fun e w'' h => ⟨h.1, h.2.symm⟩))
      repeat still_step
      still_call ((C1.out _).mono (fun e w'' h => ⟨h.1, h.2.symm⟩))
      repeat still_step
      still_call ((C2.out _).mono (fun e w'' h => ⟨h.1, h.2.symm⟩))
      repeat still_step
      still_call ((C3.out _).mono (fun e w'' h => ⟨h.1, h.2.symm⟩))
      repeat still_step
      refine wpStill_nil ?_
      change wpList _ _ _ _ _ wr.drew
      have hfid : Row wr.drew go 132 (bv (mixP m c n 0)).toArray := hfk
      have haid : Row wr.drew ga 132 (bv c).toArray := hak
      have hbid : Row wr.drew gb 132 (bv m).toArray := hbk
      have hzid : Row wr.drew gz 132 (bv (List.replicate 4 0)).toArray := hzk
      have hwid : Below w.heap.size w wr.drew := hwk.drew
      clear hfk hak hbk hzk hwk e1 e2 e3 f1 f2 f3
      generalize wr.drew = wd at *
      go_wp2
      go_roundw
      case rel =>
        refine ⟨n + 1, by omega, by go_num, ?_, haid.other n1 _, hbid.other n2 _, hzid.other n3 _, hwid.setCell (by exact b1) _⟩
        have h := hfid.set n (.int .u8 (s3 : Int))
        rw [List.setIfInBounds_toArray] at h
        rw [← HSET.out]
        unfold bv at h ⊢
        rw [List.map_set]
        exact h
      case measure => simp [intOf]; omega
    · obtain rfl : n = 4 := by omega
      rw [mixP_full] at hfk
      have hyl : (bv (mixC m c)).length = 4 := by rw [bv_length, mixC_length]
      generalize mixC m c = ys at *
      go_wp2_with (first
        | (apply wpList_loadRow hfk hyl Try.underlying132 size_a4; rfl; rfl; rfl)
        | (apply wpList_storeRow hzk (bv ys).toArray; rfl; rfl; rfl; rfl; (rw [List.size_toArray, hyl]; exact size_a4); (rw [List.size_toArray, List.size_toArray, hyl, bv_length, List.length_replicate]); exact bv_all ys; intro w5 hw5 hr5 hs5))
      refine ret_row rfl gz _ (bv ys).toArray (0, 0) _ rfl hr5 rfl Try.underlying132 rfl (by rw [List.size_toArray, hyl]; exact size_a4) ?_
      rw [hw5]
      exact ⟨rfl, hwk.trans (below_row _ b2)⟩
end Go.Proofs.Ytfinekmegiengaa
