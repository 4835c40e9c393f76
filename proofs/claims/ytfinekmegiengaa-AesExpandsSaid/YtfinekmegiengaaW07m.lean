/- The walk of the reference of layer 7: a key's words. -/
import Derived.Test.YtfinekmegiengaaW07l
import Derived.Test.YtfinekmegiengaaW07b
import Derived.Test.YtfinekmegiengaaMem8
namespace Go.Proofs.Ytfinekmegiengaa
open Go.RowKit Nep
set_option maxRecDepth 100000
set_option linter.unusedVariables false
set_option linter.unusedSimpArgs false
set_option maxHeartbeats 1000000

theorem expL_take (key : List Nat) (n m : Nat) (h : n ≤ m) : (expL key m).take n = expL key n := by
  induction m with
  | zero => obtain rfl : n = 0 := by omega
            rfl
  | succ m ih =>
    rcases Nat.lt_or_ge m n with h1 | h1
    · obtain rfl : n = m + 1 := by omega
      exact List.take_of_length_le (by rw [expL_length]; exact Nat.le_refl _)
    · rw [expL, List.take_append_of_le_length (by rw [expL_length]; exact h1), ih h1]
theorem rexpand_calls (v1 v2 : Value) (key t : List Nat) (w : World) (hb : Bytes key) (hr1 : RdB w.heap.size w v1 key) (h32 : key.length = 32) (hr2 : RdB w.heap.size w v2 t) (ht : t = sboxL) :
    Calls Try.prog 39 #[v1, v2] w (RetL (expL key 60) w) := by
  have htl : t.length = 256 := by rw [ht]; decide +kernel
  have htg : ∀ x, t.getD x 0 = sb x := fun x => by rw [ht]; rfl
  clear ht
  obtain ⟨Ws, hWs⟩ : ∃ Ws, Ws = expL key 60 := ⟨_, rfl⟩
  have hWl : Ws.length = 60 := by rw [hWs, expL_length]
  have hW4 : ∀ i, i < 60 → Word4 (Ws.getD i []) := fun i hi => by rw [hWs]; exact expL_at key h32 hb i hi
  have hWlo : ∀ i, i < 8 → Ws.getD i [] = (key.drop (4 * i)).take 4 := fun i hi => by
    rw [hWs, expL_get key i 60 (by omega)]; unfold nextW; rw [if_pos hi]
  have hWhi : ∀ i, 8 ≤ i → i < 60 → Ws.getD i [] = xorL (Ws.getD (i - 8) []) (gW i (Ws.getD (i - 1) [])) := fun i h8 hi => by
    rw [hWs, expL_get key i 60 hi, ← getD_take _ i (i - 8) [] (by omega), ← getD_take _ i (i - 1) [] (by omega), expL_take key i 60 (by omega)]
    unfold nextW; rw [if_neg (by omega)]
  have HWL := Lib.hid hWl
  have HW4 := Lib.hid hW4
  have HLO := Lib.hid hWlo
  have HHI := Lib.hid hWhi
  have HTG := Lib.hid htg
  have HTL := Lib.hid htl
  have H32 := Lib.hid h32
  obtain ⟨at2, cap2, hv2, hcap2, hB2, hcells2⟩ := RdS.addr hr2 (by intro h0; have := bv_length t; rw [h0] at this; simp at this; omega)
  have HC2 : RowKit.Hid (∀ i, i < 256 → w.cell? (at2.add i) = some (.int .u8 (sb i))) := Lib.hid (fun i hi => by
    have h := hcells2 i _ (bv_get t i (by omega))
    rwa [htg] at h)
  rw [htl] at hv2
  subst hv2
  rw [← hWs]
  have hr10 := hr1
  clear hWs hWl hW4 hWlo hWhi htg htl h32 hcells2 hr2
  go_enter Try.func39, Try.ntmps39
  go_wp2_with (first | (apply wpList_buildL0; rfl; rfl; rfl; intro g0 w0 hg01 hg02 hown0 hb0))
  clear hr1
  go_loopw [5, 6] (fun s i wr => ∃ k : Nat, k ≤ 60 ∧ i = .int .i64 k ∧ OwnL w.heap.size wr s (Ws.take k) ∧ Below w.heap.size w wr) (fun _ i _ => 60 - (intOf i).toNat)
  case atStart => exact ⟨0, by omega, rfl, hown0, hb0⟩
  case round =>
    obtain ⟨k, hk, rfl, hown, hbk⟩ := hrel
    clear hown0 hb0
    have hbs := hbk.size
    by_cases hlt : k < 60
    · have hs := take_succ_getL Ws k [] (by rw [HWL.out]; exact hlt)
      have htl : (Ws.take k).length = k := by rw [List.length_take, HWL.out]; omega
      have HS := Lib.hid hs
      have HTK := Lib.hid htl
      clear hs htl
      by_cases h8 : k < 8
      · have hrk := hr10.mono hbk
        have hsl : ((key.drop (4 * k)).take (4 * k + 4 - 4 * k)) = Ws.getD k [] := by rw [HLO.out k h8, show 4 * k + 4 - 4 * k = 4 from by omega]
        have HSL := Lib.hid hsl
        have hkl : 4 * k + 4 ≤ key.length := by rw [H32.out]; omega
        clear hsl
        go_wp2_with (first
          | (apply wpList_cutB hrk (4 * k) (4 * k + 4); rfl; rfl; rfl; exact .inr ⟨_, _, rfl, by omega⟩; exact .inr ⟨_, _, rfl, by omega⟩; exact .inl rfl; omega; omega; intro v' hr'; rw [HSL.out] at hr')
          | (apply wpList_buildL1 v'; (obtain ⟨_, ay, cy, hye, _⟩ := hr'; rw [hye]; rfl); rfl; rfl; rfl; intro gb wb hgb1 hgb2 hob hbb)
          | (at_builtin; apply wpList_appendL (hown.next hbb) ((hr'.up hbs).next hbb) (fun g hg => hr'.apart (hown.block_lt g hg).1) hob; rfl; rfl; rfl; rfl; rw [HTK.out]; omega; exact Nat.le_trans hbs hbb.size; intro v2 w2 hown' hgr'))
        go_roundw
        case rel => exact ⟨k + 1, by omega, by go_num, by rw [HS.out]; exact hown', hbk.trans ((hbb.mono hbs).trans (below_ownL hgr' (hown.next hbb) (Nat.le_refl _) (Nat.le_trans hbs hbb.size)))⟩
        case measure => simp [intOf]; omega
      · have hw1 := HW4.out (k - 1) (by omega)
        have hw8 := HW4.out (k - 8) (by omega)
        have hhi := HHI.out k (by omega) hlt
        have hg1 := getD_take Ws k (k - 1) [] (by omega)
        have hg8 := getD_take Ws k (k - 8) [] (by omega)
        obtain ⟨z, hz⟩ : ∃ z, z = Ws.getD (k - 8) [] := ⟨_, rfl⟩
        obtain ⟨y0, y1, y2, y3, hye⟩ := four hw1.1
        rw [← hz] at hw8 hhi hg8
        rw [hye] at hw1 hhi hg1
        have hy0 := hw1.2 y0 (by simp)
        have hy1 := hw1.2 y1 (by simp)
        have hy2 := hw1.2 y2 (by simp)
        have hy3 := hw1.2 y3 (by simp)
        obtain ⟨x, hx⟩ : ∃ x, x = gW k [y0, y1, y2, y3] := ⟨_, rfl⟩
        have hxw : Word4 x := by rw [hx]; exact gW_word hw1 hlt
        rw [← hx] at hhi
        obtain ⟨r, hr⟩ : ∃ r, r = Ws.getD k [] := ⟨_, rfl⟩
        rw [← hr] at hhi
        have CX : RowKit.Hid (∀ va vb w, RdB w.heap.size w va z → RdB w.heap.size w vb x → Calls Try.prog 105 #[va, vb] w (RetS r w)) := Lib.hid (fun va vb w ha hb' => hhi ▸ rxor_calls va vb z x w hw8.2 hxw.2 ha hb' (by rw [hw8.1, hxw.1]) (by rw [hw8.1]; omega))
        have HG1 := Lib.hid hg1
        have HG8 := Lib.hid hg8
        have HR := Lib.hid hr
        have HSR : RowKit.Hid (Ws.take (k + 1) = Ws.take k ++ [r]) := Lib.hid (by rw [HS.out, hr])
        have i1 : k - 1 < (Ws.take k).length := by rw [HTK.out]; omega
        have i8 : k - 8 < (Ws.take k).length := by rw [HTK.out]; omega
        have k1 : (k : Int) - 1 = ((k - 1 : Nat) : Int) := by omega
        have k8 : (k : Int) - 8 = ((k - 8 : Nat) : Int) := by omega
        have K1 := Lib.hid k1
        have K8 := Lib.hid k8
        clear hhi hg1 hg8 hz hye hr k1 k8
        have cell2 : ∀ i, i < 256 → ∀ w2, Below wr.heap.size wr w2 → w2.cell? (at2.add i) = some (.int .u8 (sb i)) := fun i hi w2 h2 => ((h2.cell (by rw [blk_add]; exact Nat.lt_of_lt_of_le hB2 hbs)).trans (hbk.cell (by rw [blk_add]; exact hB2))).trans (HC2.out i hi)
        rcases (show k % 8 = 0 ∨ k % 8 = 4 ∨ (k % 8 ≠ 0 ∧ k % 8 ≠ 4) from by omega) with h0 | h4 | hn
        · have hx' : x = [sb y1 ^^^ pw (k / 8 - 1), sb y2, sb y3, sb y0] := by rw [hx]; unfold gW; rw [if_pos h0]; rfl
          have hm0 : ((k : Int) % 8 == 0) = true := by simp; omega
          have HX := Lib.hid hx'
          clear hx hx'
          go_wp2_with (first
            | (apply wpList_buildB []; exact of_decide_eq_true rfl; rfl; rfl; rfl; intro ge we hge1 hge2 hoe hbe)
            | (apply wpList_indexL (hown.next hbe).rd (k - 1) i1; rfl; rfl; rfl; rfl; exact K1.out; intro p1 yv hp1 hc1 hry; rw [HG1.out] at hry)
            | (at_builtin; apply wpList_appendB hoe hry; rfl; rfl; rfl; rfl; exact of_decide_eq_true rfl; (have := hbe.size; omega); intro v2 w2 ho2 hg2; have hb2 : Below wr.heap.size wr w2 := hbe.trans (below_own hg2 hoe (Nat.le_refl _) hbe.size); have hs2 := hb2.size; have hown2 := hown.next hb2; have ho2' : w2.ownsRow wr.heap.size 5 1 v2 4 (bv [y0, y1, y2, y3]) := ho2; clear ho2; obtain ⟨gx, cx, rfl⟩ := own_slice ho2' (by omega)))
          have cy : ∀ i, i < 4 → w2.drew.cell? ⟨gx, i, none⟩ = some (.int .u8 (([y0, y1, y2, y3].getD i 0 : Nat) : Int)) := fun i hi => by
            have h := ho2'.cells (g := gx) rfl i _ (bv_get [y0, y1, y2, y3] i hi)
            rw [Addr.add_lit, Nat.zero_add] at h
            exact h
          have cy0 := cy 0 (by omega)
          have cy1 := cy 1 (by omega)
          have cy2 := cy 2 (by omega)
          have cy3 := cy 3 (by omega)
          simp only [List.getD_cons_zero, List.getD_cons_succ] at cy0 cy1 cy2 cy3
          have ct0 : w2.drew.cell? (at2.add y0) = some (.int .u8 (sb y0)) := cell2 y0 hy0 w2 hb2
          have ct1 : w2.drew.cell? (at2.add y1) = some (.int .u8 (sb y1)) := cell2 y1 hy1 w2 hb2
          have ct2 : w2.drew.cell? (at2.add y2) = some (.int .u8 (sb y2)) := cell2 y2 hy2 w2 hb2
          have ct3 : w2.drew.cell? (at2.add y3) = some (.int .u8 (sb y3)) := cell2 y3 hy3 w2 hb2
          have j0 : (y0 : Int) < 256 := by omega
          have j1 : (y1 : Int) < 256 := by omega
          have j2 : (y2 : Int) < 256 := by omega
          have j3 : (y3 : Int) < 256 := by omega
          clear cell2 cy
          go_still_tail 24, (by kernel_rfl)
          change wpList _ _ _ _ _ w2.drew
          have hb2d : Below wr.heap.size wr w2.drew := hb2.drew
          have hown2d : OwnL w.heap.size w2.drew _ (Ws.take k) := hown2
          clear cy0 cy1 cy2 cy3 ct0 ct1 ct2 ct3 hown2 ho2' hb2 j0 j1 j2 j3 hs2 hg2
          generalize w2.drew = wd at *
          have hsd := hb2d.size
          go_wp2_with (first
            | (apply wpList_buildB [sb y1, sb y2, sb y3, sb y0]; exact of_decide_eq_true rfl; rfl; rfl; rfl; intro g3 w3 hg31 hg32 ho3 hb3))
          obtain ⟨d, hd⟩ : ∃ d, d = k / 8 := ⟨_, rfl⟩
          obtain ⟨m, hm⟩ : ∃ m, m = k / 8 - 1 := ⟨_, rfl⟩
          obtain ⟨p, hp⟩ : ∃ p, p = pw m := ⟨_, rfl⟩
          obtain ⟨s1, hs1⟩ : ∃ s, s = sb y1 := ⟨_, rfl⟩
          obtain ⟨u, hu⟩ : ∃ u, u = s1 ^^^ p := ⟨_, rfl⟩
          have CP : RowKit.Hid (∀ w, Calls Try.prog 104 #[.int .u8 2, .int .i64 (m : Int)] w (RetP (.int .u8 p) w)) := Lib.hid (fun w => hp ▸ rpow_calls m rfl rfl (by omega) w)
          have hp8 : p < 256 := by
            have : pw m ≤ pw 6 := pw_le _ _ (by omega)
            have h6 : pw 6 = 64 := by decide
            omega
          have hs8 : s1 < 256 := by rw [hs1]; exact sb_lt _
          have hu8 : bits .xor .u8 (s1 : Int) (p : Int) = u := hu ▸ u8_xor_nat s1 p hs8 hp8
          have f1 : ((k : Int)).tdiv 8 = (d : Int) := by rw [Int.tdiv_eq_ediv_of_nonneg (by omega)]; omega
          have f2 : IntKind.i64.wrap (d : Int) = (d : Int) := IntWalk.i64_in _ (by omega)
          have f3 : IntKind.i64.wrap ((d : Int) - 1) = (m : Int) := by rw [IntWalk.i64_in _ (by omega)]; omega
          have hrow3 : Row w3.drew g3 5 (bv [s1, sb y2, sb y3, sb y0]).toArray := hs1 ▸ own_row ho3
          have c0 : w3.drew.cell? ⟨g3, 0, none⟩ = some (.int .u8 s1) := hrow3.cell rfl
          have fr : w3.drew.frozen? ⟨g3, 0, none⟩ = false := hrow3.free 0
          have hX2 : x = [u, sb y2, sb y3, sb y0] := by rw [HX.out, hu, hs1, hp, hm]
          replace HX := Lib.hid hX2
          clear hd hm hp hs1 hu hX2
          go_still_tail 10, (by kernel_rfl)
          still_call ((CP.out _).mono (fun e w'' h => ⟨h.1, h.2.symm⟩))
          repeat still_step
          refine wpStill_nil ?_
          change wpList _ _ _ _ _ w3.drew
          have hb3d : Below wd.heap.size wd w3.drew := hb3.drew
          clear hb3 ho3 f1 f2 f3
          generalize w3.drew = w4 at *
          have hset := hrow3.set 0 (.int .u8 (u : Int))
          have hset2 : Row (w4.setCell ⟨g3, 0, none⟩ (.int .u8 (u : Int))) g3 5 (bv [u, sb y2, sb y3, sb y0]).toArray := hset
          have hbd5 : Below wd.heap.size wd (w4.setCell ⟨g3, 0, none⟩ (.int .u8 (u : Int))) := hb3d.setCell (by show _ ≤ g3; omega) _
          have hown3 := hown2d.next hbd5
          have hbw3 := hb2d.trans (hbd5.mono hsd)
          have hs3 := hbw3.size
          have hrx := (rdb_of_row hset2 (n := 4) rfl).up hset2.lt
          clear hset hset2
          go_wp2_with (first
            | (apply wpList_indexL hown3.rd (k - 8) i8; rfl; rfl; rfl; rfl; exact K8.out; intro p8 zv hp8 hc8 hrz; rw [HG8.out] at hrz)
            | (go_at_call 105; refine (CX.out _ _ _ hrz (by rw [HX.out]; exact hrx)).mono ?_; rintro e w5 ⟨v5, rfl, ho5, hb5⟩; have hown5 := hown3.next hb5; have hs5 := hb5.size)
            | (apply wpList_buildL1 v5; (obtain ⟨_, ay, cy, hye, _⟩ := RdB.of_own ho5; rw [hye]; rfl); rfl; rfl; rfl; intro gb wb hgb1 hgb2 hob hbb)
            | (at_builtin; apply wpList_appendL (hown5.next hbb) ((RdB.of_own ho5).next hbb) (fun g hg => own_apart ho5 (hown3.block_lt g hg).2) hob; rfl; rfl; rfl; rfl; rw [HTK.out]; omega; (have := hbb.size; omega); intro v6 w6 hown' hgr'))
          go_roundw
          case rel => exact ⟨k + 1, by omega, by go_num, by rw [HSR.out]; exact hown', (hbk.trans (hbw3.mono hbs)).trans ((hb5.mono (by omega)).trans ((hbb.mono (by omega)).trans (below_ownL hgr' (hown5.next hbb) (Nat.le_refl _) (by have := hbb.size; omega))))⟩
          case measure => simp [intOf]; omega
        · have hx' : x = [sb y0, sb y1, sb y2, sb y3] := by rw [hx]; unfold gW; rw [if_neg (by omega), if_pos h4]; rfl
          have hm0 : ((k : Int) % 8 == 0) = false := by simp; omega
          have hm4 : ((k : Int) % 8 == 4) = true := by simp; omega
          have HX := Lib.hid hx'
          clear hx hx'
          go_wp2_with (first
            | (apply wpList_buildB []; exact of_decide_eq_true rfl; rfl; rfl; rfl; intro ge we hge1 hge2 hoe hbe)
            | (apply wpList_indexL (hown.next hbe).rd (k - 1) i1; rfl; rfl; rfl; rfl; exact K1.out; intro p1 yv hp1 hc1 hry; rw [HG1.out] at hry)
            | (at_builtin; apply wpList_appendB hoe hry; rfl; rfl; rfl; rfl; exact of_decide_eq_true rfl; (have := hbe.size; omega); intro v2 w2 ho2 hg2; have hb2 : Below wr.heap.size wr w2 := hbe.trans (below_own hg2 hoe (Nat.le_refl _) hbe.size); have hs2 := hb2.size; have hown2 := hown.next hb2; have ho2' : w2.ownsRow wr.heap.size 5 1 v2 4 (bv [y0, y1, y2, y3]) := ho2; clear ho2; obtain ⟨gx, cx, rfl⟩ := own_slice ho2' (by omega)))
          have cy : ∀ i, i < 4 → w2.drew.cell? ⟨gx, i, none⟩ = some (.int .u8 (([y0, y1, y2, y3].getD i 0 : Nat) : Int)) := fun i hi => by
            have h := ho2'.cells (g := gx) rfl i _ (bv_get [y0, y1, y2, y3] i hi)
            rw [Addr.add_lit, Nat.zero_add] at h
            exact h
          have cy0 := cy 0 (by omega)
          have cy1 := cy 1 (by omega)
          have cy2 := cy 2 (by omega)
          have cy3 := cy 3 (by omega)
          simp only [List.getD_cons_zero, List.getD_cons_succ] at cy0 cy1 cy2 cy3
          have ct0 : w2.drew.cell? (at2.add y0) = some (.int .u8 (sb y0)) := cell2 y0 hy0 w2 hb2
          have ct1 : w2.drew.cell? (at2.add y1) = some (.int .u8 (sb y1)) := cell2 y1 hy1 w2 hb2
          have ct2 : w2.drew.cell? (at2.add y2) = some (.int .u8 (sb y2)) := cell2 y2 hy2 w2 hb2
          have ct3 : w2.drew.cell? (at2.add y3) = some (.int .u8 (sb y3)) := cell2 y3 hy3 w2 hb2
          have j0 : (y0 : Int) < 256 := by omega
          have j1 : (y1 : Int) < 256 := by omega
          have j2 : (y2 : Int) < 256 := by omega
          have j3 : (y3 : Int) < 256 := by omega
          clear cell2 cy
          go_still_tail 24, (by kernel_rfl)
          change wpList _ _ _ _ _ w2.drew
          have hb2d : Below wr.heap.size wr w2.drew := hb2.drew
          have hown2d : OwnL w.heap.size w2.drew _ (Ws.take k) := hown2
          clear cy0 cy1 cy2 cy3 ct0 ct1 ct2 ct3 hown2 ho2' hb2 j0 j1 j2 j3 hs2 hg2
          generalize w2.drew = wd at *
          have hsd := hb2d.size
          go_wp2_with (first
            | (apply wpList_buildB [sb y0, sb y1, sb y2, sb y3]; exact of_decide_eq_true rfl; rfl; rfl; rfl; intro g3 w3 hg31 hg32 ho3 hb3; have hbw3 := hb2d.trans (hb3.mono hsd); have hs3 := hb3.size; have hown3 := hown2d.next hb3; have hrx : RdB w3.heap.size w3 _ [sb y0, sb y1, sb y2, sb y3] := RdB.of_own ho3)
            | (apply wpList_indexL hown3.rd (k - 8) i8; rfl; rfl; rfl; rfl; exact K8.out; intro p8 zv hp8 hc8 hrz; rw [HG8.out] at hrz)
            | (go_at_call 105; refine (CX.out _ _ _ hrz (by rw [HX.out]; exact hrx)).mono ?_; rintro e w5 ⟨v5, rfl, ho5, hb5⟩; have hown5 := hown3.next hb5; have hs5 := hb5.size)
            | (apply wpList_buildL1 v5; (obtain ⟨_, ay, cy, hye, _⟩ := RdB.of_own ho5; rw [hye]; rfl); rfl; rfl; rfl; intro gb wb hgb1 hgb2 hob hbb)
            | (at_builtin; apply wpList_appendL (hown5.next hbb) ((RdB.of_own ho5).next hbb) (fun g hg => own_apart ho5 (hown3.block_lt g hg).2) hob; rfl; rfl; rfl; rfl; rw [HTK.out]; omega; (have := hbb.size; omega); intro v6 w6 hown' hgr'))
          go_roundw
          case rel => exact ⟨k + 1, by omega, by go_num, by rw [HSR.out]; exact hown', (hbk.trans (hbw3.mono hbs)).trans ((hb5.mono (by omega)).trans ((hbb.mono (by omega)).trans (below_ownL hgr' (hown5.next hbb) (Nat.le_refl _) (by have := hbb.size; omega))))⟩
          case measure => simp [intOf]; omega
        · have hx' : x = [y0, y1, y2, y3] := by rw [hx]; unfold gW; rw [if_neg hn.1, if_neg hn.2]
          have hm0 : ((k : Int) % 8 == 0) = false := by simp; omega
          have hm4 : ((k : Int) % 8 == 4) = false := by simp; omega
          have HX := Lib.hid hx'
          clear hx hx' hn cell2
          go_wp2_with (first
            | (apply wpList_buildB []; exact of_decide_eq_true rfl; rfl; rfl; rfl; intro ge we hge1 hge2 hoe hbe)
            | (apply wpList_indexL (hown.next hbe).rd (k - 1) i1; rfl; rfl; rfl; rfl; exact K1.out; intro p1 yv hp1 hc1 hry; rw [HG1.out] at hry)
            | (at_builtin; apply wpList_appendB hoe hry; rfl; rfl; rfl; rfl; exact of_decide_eq_true rfl; (have := hbe.size; omega); intro v2 w2 ho2 hg2; have hb2 : Below wr.heap.size wr w2 := hbe.trans (below_own hg2 hoe (Nat.le_refl _) hbe.size); have hs2 := hb2.size; have hown2 := hown.next hb2)
            | (apply wpList_indexL hown2.rd (k - 8) i8; rfl; rfl; rfl; rfl; exact K8.out; intro p8 zv hp8 hc8 hrz; rw [HG8.out] at hrz)
            | (go_at_call 105; refine (CX.out _ _ _ hrz (by rw [HX.out]; exact RdB.of_own ho2)).mono ?_; rintro e w3 ⟨v3, rfl, ho3, hb3⟩; have hown3 := hown2.next hb3; have hs3 := hb3.size)
            | (apply wpList_buildL1 v3; (obtain ⟨_, ay, cy, hye, _⟩ := RdB.of_own ho3; rw [hye]; rfl); rfl; rfl; rfl; intro gb wb hgb1 hgb2 hob hbb)
            | (at_builtin; apply wpList_appendL (hown3.next hbb) ((RdB.of_own ho3).next hbb) (fun g hg => own_apart ho3 (hown2.block_lt g hg).2) hob; rfl; rfl; rfl; rfl; rw [HTK.out]; omega; (have := hbb.size; omega); intro v4 w4 hown' hgr'))
          go_roundw
          case rel => exact ⟨k + 1, by omega, by go_num, by rw [HSR.out]; exact hown', (hbk.trans (hb2.mono hbs)).trans ((hb3.mono (by omega)).trans ((hbb.mono (by omega)).trans (below_ownL hgr' (hown3.next hbb) (Nat.le_refl _) (by have := hbb.size; omega))))⟩
          case measure => simp [intOf]; omega
    · go_wp2_with fail
      go_ret
      obtain rfl : k = 60 := by omega
      rw [List.take_of_length_le (by rw [HWL.out]; exact Nat.le_refl _)] at hown
      exact ⟨_, rfl, hown, hbk⟩
end Go.Proofs.Ytfinekmegiengaa
