/- The walks of layer 8's reference: coefficients, what is left of them, the bytes of coefficients; doubling. -/
import Derived.Test.YtfinekmegiengaaW08b
namespace Go.Proofs.Ytfinekmegiengaa
open Go.RowKit Nep
set_option maxRecDepth 100000
set_option linter.unusedVariables false
set_option linter.unusedSimpArgs false
set_option maxHeartbeats 1000000

/-- flipped in four places -/
def flipL (c : List Int) : List Int := (((c.set 0 (1 - c.getD 0 0)).set 1 (1 - c.getD 1 0)).set 2 (1 - c.getD 2 0)).set 7 (1 - c.getD 7 0)
theorem leftL_one (c : List Int) (h : c.getD 128 0 = 1) : leftL c = (flipL c).take 128 := by unfold leftL flipL; rw [if_pos h]
theorem leftL_nought (c : List Int) (h : ¬ c.getD 128 0 = 1) : leftL c = c.take 128 := by unfold leftL; rw [if_neg h]
theorem iv_set (l : List Int) (i : Nat) (x : Int) : iv (l.set i x) = (iv l).set i (.int .i64 x) := by simp [iv, List.map_set]

theorem rleft_calls (v : Value) (c : List Int) (w : World) (h01 : ∀ x ∈ c, x = 0 ∨ x = 1) (hr : RdI w.heap.size w v c) (hl : c.length = 129) :
    Calls Try.prog 154 #[v] w (RetRI (leftL c) w) := by
  have hr0 := hr
  have g01 : ∀ i, c.getD i 0 = 0 ∨ c.getD i 0 = 1 := fun i => by
    rw [List.getD_eq_getElem?_getD]
    rcases Nat.lt_or_ge i c.length with hl | hl
    · rw [List.getElem?_eq_getElem hl]; exact h01 _ (List.getElem_mem _)
    · rw [List.getElem?_eq_none hl]; exact .inl rfl
  have HL := Lib.hid hl
  obtain ⟨t, ht⟩ : ∃ t, t = c.getD 128 0 := ⟨_, rfl⟩
  have ht01 := g01 128
  rw [← ht] at ht01
  have hg : ∀ i, i < 129 → (iv c)[i]? = some (.int .i64 (c.getD i 0)) := fun i hi => iv_get c i (by omega)
  have HG := Lib.hid hg
  have G01 := Lib.hid g01
  have hcl : (c.length : Int) = 129 := by omega
  clear hl h01 g01 hg
  go_enter Try.func154, Try.ntmps154
  go_wp2_with (first
    | (apply wpList_buildI []; exact of_decide_eq_true rfl; rfl; rfl; rfl; intro ge we hge1 hge2 hoe hbe)
    | (at_builtin; apply wpList_appendI hoe (RdI.mono hr hbe); rfl; rfl; rfl; rfl; (rw [HL.out]; exact of_decide_eq_true rfl); (have := hbe.size; omega); intro v1 w1 ho1 hg1; have ho1' : w1.ownsRow w.heap.size 3 1 v1 129 (iv c) := (by rw [← HL.out]; simpa using ho1); have hb1 : Below w.heap.size w w1 := hbe.trans (below_own hg1 hoe (Nat.le_refl _) hbe.size); clear ho1 hg1 hoe hbe; obtain ⟨gx, cx, rfl⟩ := own_slice ho1' (by omega))
    | (refine wpList_len (by rfl) rfl Try.underlying105 rfl (RdS.of_own ho1') ?_))
  have H : RowKit.Hid (∀ i, i < 129 → ∀ x, x = c.getD i 0 → w1.cell? ⟨gx, i, none⟩ = some (.int .i64 x)) := Lib.hid (fun i hi x hx => hx ▸ own_cell ho1' (HG.out i hi))
  rcases ht01 with rfl | rfl
  · have HT := Lib.hid ht
    have c128 := H.out 128 (by omega) 0 ht
    clear ht hr
    go_loopw [4] (fun i wr => ∃ k : Nat, k ≤ 1 ∧ i = .int .i64 (128 - (k : Int)) ∧ wr = w1) (fun i _ => (intOf i).toNat)
    case atStart => exact ⟨0, by omega, by simp, rfl⟩
    case round =>
      obtain ⟨k, hk, rfl, rfl⟩ := hrel
      rcases (show k = 0 ∨ k = 1 from by omega) with rfl | rfl
      · go_wp2_with fail
        go_roundw
        case rel => exact ⟨1, by omega, by simp, by trivial⟩
        case measure => simp [intOf]
      · go_wp2_with (first | (apply wpList_cutI (RdI.mono (B := wr.heap.size) (RdS.of_own ho1' |> fun h => by unfold RdI; rw [HL.out]; exact h) (Below.refl _ _)) 0 128; rfl; rfl; rfl; exact .inl ⟨rfl, rfl⟩; exact .inr ⟨_, _, rfl, rfl⟩; exact .inl rfl; omega; (rw [HL.out]; omega); intro v2 hr2))
        go_ret
        refine ⟨_, rfl, ?_, hb1⟩
        rw [leftL_nought c (by rw [← HT.out]; decide)]
        simpa using hr2
  · have HT := Lib.hid ht
    obtain ⟨x0, e0⟩ : ∃ x, x = c.getD 0 0 := ⟨_, rfl⟩
    obtain ⟨x1, e1⟩ : ∃ x, x = c.getD 1 0 := ⟨_, rfl⟩
    obtain ⟨x2, e2⟩ : ∃ x, x = c.getD 2 0 := ⟨_, rfl⟩
    obtain ⟨x7, e7⟩ : ∃ x, x = c.getD 7 0 := ⟨_, rfl⟩
    have c128 := H.out 128 (by omega) 1 ht
    have c0 := H.out 0 (by omega) x0 e0
    have c1 := H.out 1 (by omega) x1 e1
    have c2 := H.out 2 (by omega) x2 e2
    have c7 := H.out 7 (by omega) x7 e7
    have f0 := own_frozen ho1' 0
    have f1 := own_frozen ho1' 1
    have f2 := own_frozen ho1' 2
    have f7 := own_frozen ho1' 7
    have b0 : 0 ≤ x0 ∧ x0 ≤ 1 := by have := G01.out 0; omega
    have b1 : 0 ≤ x1 ∧ x1 ≤ 1 := by have := G01.out 1; omega
    have b2 : 0 ≤ x2 ∧ x2 ≤ 1 := by have := G01.out 2; omega
    have b7 : 0 ≤ x7 ∧ x7 ≤ 1 := by have := G01.out 7; omega
    obtain ⟨b00, b01⟩ := b0
    obtain ⟨b10, b11⟩ := b1
    obtain ⟨b20, b21⟩ := b2
    obtain ⟨b70, b71⟩ := b7
    have hfl : flipL c = (((c.set 0 (1 - x0)).set 1 (1 - x1)).set 2 (1 - x2)).set 7 (1 - x7) := by rw [e0, e1, e2, e7]; rfl
    have HF := Lib.hid hfl
    have hgl := (ho1'.lt gx rfl).1
    have hglt := (ho1'.lt gx rfl).2
    clear ht hr e0 e1 e2 e7 hfl
    go_loopw [4] (fun i wr => ∃ k : Nat, k ≤ 1 ∧ i = .int .i64 (128 - (k : Int)) ∧ wr = (if k = 0 then w1 else ((((w1.setCell ⟨gx, 0, none⟩ (.int .i64 (1 - x0))).setCell ⟨gx, 1, none⟩ (.int .i64 (1 - x1))).setCell ⟨gx, 2, none⟩ (.int .i64 (1 - x2))).setCell ⟨gx, 7, none⟩ (.int .i64 (1 - x7))))) (fun i _ => (intOf i).toNat)
    case atStart => exact ⟨0, by omega, by simp, rfl⟩
    case round =>
      obtain ⟨k, hk, rfl, hwr⟩ := hrel
      rcases (show k = 0 ∨ k = 1 from by omega) with rfl | rfl
      · rw [if_pos rfl] at hwr
        subst hwr
        go_wp2_with fail
        go_roundw
        case rel => exact ⟨1, by omega, by simp, by rw [if_neg (by omega)]⟩
        case measure => simp [intOf]
      · rw [if_neg (by omega)] at hwr
        have hb4 : Below w.heap.size w wr := by
          rw [hwr]
          exact (((hb1.setCell (by exact hgl) _).setCell (by exact hgl) _).setCell (by exact hgl) _).setCell (by exact hgl) _
        have ho4 : wr.ownsRow w.heap.size 3 1 (.slice (some ⟨gx, 0, none⟩) 129 cx) 129 (iv (flipL c)) := by
          rw [hwr, HF.out, iv_set, iv_set, iv_set, iv_set]
          exact own_set (own_set (own_set (own_set ho1' 0 (by omega) _) 1 (by omega) _) 2 (by omega) _) 7 (by omega) _
        have hfll : (flipL c).length = 129 := by rw [HF.out]; simp [HL.out]
        have hrd : RdI wr.heap.size wr (.slice (some ⟨gx, 0, none⟩) 129 cx) (flipL c) := by
          have h := RdS.of_own ho4
          unfold RdI
          rw [hfll]
          exact h
        have HWR := Lib.hid hwr
        have HFL := Lib.hid hfll
        clear hwr c128 c0 c1 c2 c7 f0 f1 f2 f7 hfll
        go_wp2_with (first | (apply wpList_cutI hrd 0 128; rfl; rfl; rfl; exact .inl ⟨rfl, rfl⟩; exact .inr ⟨_, _, rfl, rfl⟩; exact .inl rfl; omega; (rw [HFL.out]; omega); intro v2 hr2))
        go_ret
        refine ⟨_, rfl, ?_, hb4⟩
        rw [leftL_one c (by rw [← HT.out])]
        simpa using hr2

theorem rtold8_calls (v : Value) (c : List Int) (w : World) (h01 : ∀ x ∈ c, x = 0 ∨ x = 1) (hr : RdI w.heap.size w v c) (hl : c.length = 128) :
    Calls Try.prog 153 #[v] w (RetS (toldI c) w) := by
  have hr0 := hr
  have HL := Lib.hid hl
  have HB : RowKit.Hid (∀ i k, 0 ≤ hornI c i k ∧ hornI c i k < 2 ^ k) := Lib.hid (fun i k => hornI_lt c h01 i k)
  obtain ⟨ys, hys⟩ : ∃ ys, ys = toldI c := ⟨_, rfl⟩
  have hyl : ys.length = 16 := by rw [hys, toldI_length]
  have hyg : ∀ k, k < 16 → ys.getD k 0 = (hornI c k 8).toNat := fun k hk => by rw [hys]; simp [toldI, hk]
  have HYL := Lib.hid hyl
  have HYG := Lib.hid hyg
  rw [← hys]
  clear hl h01 hys hyl hyg
  go_enter Try.func153, Try.ntmps153
  go_wp2_with (first | (apply wpList_buildB []; exact of_decide_eq_true rfl; rfl; rfl; rfl; intro g0 w0 hg01 hg02 hown0 hb0))
  clear hr
  go_loopw [3, 4] (fun s i wr => ∃ k : Nat, k ≤ 16 ∧ i = .int .i64 k ∧ wr.ownsRow w.heap.size 5 1 s (ys.take k).length (bv (ys.take k)) ∧ Below w.heap.size w wr) (fun _ i _ => 16 - (intOf i).toNat)
  case atStart => exact ⟨0, by omega, rfl, hown0, hb0⟩
  case round =>
    obtain ⟨k, hk, rfl, hown, hbk⟩ := hrel
    clear hown0 hb0
    have hrk := hr0.mono hbk
    have hbs := hbk.size
    have htl : (ys.take k).length = k := by rw [List.length_take, HYL.out]; omega
    by_cases hlt : k < 16
    · go_wp2_with fail
      go_loop [5, 6] (fun n i => ∃ j : Nat, j ≤ 8 ∧ i = .int .i64 (7 - (j : Int)) ∧ n = .int .i64 (hornI c k j)) (fun _ i => (intOf i + 1).toNat)
      case atStart => exact ⟨0, by omega, rfl, rfl⟩
      case round =>
        obtain ⟨j, hj, rfl, rfl⟩ := hrel
        have hh := HB.out k j
        obtain ⟨h, hhe⟩ : ∃ h, h = hornI c k j := ⟨_, rfl⟩
        rw [← hhe] at hh ⊢
        have hp : (2 : Int) ^ j ≤ 256 := by
          have : (2 : Int) ^ j ≤ 2 ^ 8 := by
            have h := Nat.pow_le_pow_right (show 0 < 2 by omega) hj
            exact_mod_cast h
          simpa using this
        obtain ⟨hh0, hh1⟩ := hh
        have hh2 : h < 256 := by omega
        by_cases hj8 : j < 8
        · obtain ⟨q, hq⟩ : ∃ q, q = 8 * k + (7 - j) := ⟨_, rfl⟩
          have hql : q < c.length := by rw [HL.out]; omega
          obtain ⟨x, hx⟩ : ∃ x, x = c.getD q 0 := ⟨_, rfl⟩
          have hnext : hornI c k (j + 1) = 2 * h + x := by rw [hornI, hhe, hx, hq]
          have hb2 := HB.out k (j + 1)
          rw [hnext, Int.pow_succ] at hb2
          have hx1 : 0 ≤ 2 * h + x := hb2.1
          have hx2 : 2 * h + x ≤ 512 := by omega
          have HX := Lib.hid hx
          have HN := Lib.hid hnext
          have HQ := Lib.hid hq
          clear hx hnext hhe hb2 hp hh1 hq
          go_wp2_with (first | (apply wpList_indexI hrk q hql; rfl; rfl; rfl; rfl; (have := HQ.out; omega); rw [← HX.out]; intro p hp hcell))
          go_round
          case rel => exact ⟨j + 1, by omega, by go_num, by rw [HN.out]⟩
          case measure => simp [intOf]; omega
        · obtain rfl : j = 8 := by omega
          obtain ⟨z, rfl⟩ : ∃ z : Nat, h = (z : Int) := ⟨h.toNat, by omega⟩
          have hs : ys.take (k + 1) = ys.take k ++ [z] := by
            rw [take_succ_getD _ _ (by rw [HYL.out]; exact hlt), HYG.out k hlt, ← hhe]
            rfl
          have HS := Lib.hid hs
          have HTL := Lib.hid htl
          clear hs hhe htl hp
          go_wp2_with (first
            | (apply wpList_buildB [z]; exact of_decide_eq_true rfl; rfl; rfl; rfl; intro gb wb hgb1 hgb2 hob hbb)
            | (at_builtin; apply wpList_appendB (own_next hown hbb) (RdB.of_own hob); rfl; rfl; rfl; rfl; rw [HTL.out]; simp; omega; (have := hbb.size; omega); intro v' w' hown' hgr'))
          have hb' := below_own hgr' (own_next hown hbb) (Nat.le_refl _) (by have := hbb.size; omega)
          go_roundw
          case rel => exact ⟨k + 1, by omega, by go_num, by rw [HS.out]; exact hown', hbk.trans ((hbb.mono hbs).trans hb')⟩
          case measure => simp [intOf]; omega
    · go_wp2_with fail
      go_ret
      obtain rfl : k = 16 := by omega
      rw [List.take_of_length_le (by rw [HYL.out]; exact Nat.le_refl _)] at hown
      exact ⟨_, rfl, hown, hbk⟩

theorem rdouble_calls (v : Value) (b : List Nat) (w : World) (hb : Bytes b) (hr : RdB w.heap.size w v b) (hl : b.length = 16) :
    Calls Try.prog 122 #[v] w (RetS (dblL b) w) := by
  obtain ⟨x, hx⟩ : ∃ x, x = bitsN b 16 := ⟨_, rfl⟩
  have hxl : x.length = 128 := by rw [hx, bitsN_length]
  have hx01 : ∀ y ∈ ((0 : Int) :: x), y = 0 ∨ y = 1 := fun y hy => by
    rcases List.mem_cons.1 hy with rfl | hy
    · exact .inl rfl
    · rw [hx] at hy; exact bitsN_01 b 16 y hy
  obtain ⟨c, hc⟩ : ∃ c, c = leftL (0 :: x) := ⟨_, rfl⟩
  have hcl : c.length = 128 := by
    rw [hc, leftL, List.length_take]
    split <;> simp [hxl]
  have hc01 : ∀ y ∈ c, y = 0 ∨ y = 1 := fun y hy => by
    obtain ⟨i, hi, rfl⟩ := List.getElem_of_mem hy
    have h01 : ∀ i, ((0 : Int) :: x).getD i 0 = 0 ∨ ((0 : Int) :: x).getD i 0 = 1 := fun i => by
      rw [List.getD_eq_getElem?_getD]
      rcases Nat.lt_or_ge i (0 :: x).length with hl | hl
      · rw [List.getElem?_eq_getElem hl]; exact hx01 _ (List.getElem_mem _)
      · rw [List.getElem?_eq_none hl]; exact .inl rfl
    have hxl1 : (0 :: x).length = 129 := by simp [hxl]
    have e : c[i] = c.getD i 0 := by simp [List.getElem?_eq_getElem hi]
    rw [e, hc, leftL, List.getD_eq_getElem?_getD, List.getElem?_take, if_pos (by omega), ← List.getD_eq_getElem?_getD]
    split
    · rw [getD_set _ 7 _ _ (by simp [hxl]), getD_set _ 2 _ _ (by simp [hxl]), getD_set _ 1 _ _ (by simp [hxl]), getD_set _ 0 _ _ (by simp [hxl])]
      have a0 := h01 0
      have a1 := h01 1
      have a2 := h01 2
      have a7 := h01 7
      have ai := h01 i
      split
      · omega
      · split
        · omega
        · split
          · omega
          · split <;> omega
    · exact h01 i
  have hd : toldI c = dblL b := by rw [hc, hx]; exact told_left b hb
  have C1 : RowKit.Hid (∀ w, RdB w.heap.size w v b → Calls Try.prog 155 #[v] w (RetOI x w)) := Lib.hid (fun w h => hx ▸ rbits_calls v b w hb h hl)
  have C2 : RowKit.Hid (∀ va w, RdI w.heap.size w va (0 :: x) → Calls Try.prog 154 #[va] w (RetRI c w)) := Lib.hid (fun va w h => hc ▸ rleft_calls va _ w hx01 h (by simp [hxl]))
  have C3 : RowKit.Hid (∀ va w, RdI w.heap.size w va c → Calls Try.prog 153 #[va] w (RetS (dblL b) w)) := Lib.hid (fun va w h => hd ▸ rtold8_calls va c w hc01 h hcl)
  have HXL := Lib.hid hxl
  clear hx hxl hx01 hc hcl hc01 hd
  generalize dblL b = y at *
  go_enter Try.func122, Try.ntmps122
  go_wp2_with (first
    | (apply wpList_buildI [0]; exact of_decide_eq_true rfl; rfl; rfl; rfl; intro ge we hge1 hge2 hoe hbe)
    | (go_at_call 155; refine (C1.out _ (hr.next hbe)).mono ?_; rintro e w1 ⟨v1, rfl, ho1, hb1⟩)
    | (at_builtin; apply wpList_appendI (own_next hoe hb1) (RdI.of_own ho1); rfl; rfl; rfl; rfl; (rw [HXL.out]; exact of_decide_eq_true rfl); (have := hbe.size; have := hb1.size; omega); intro v2 w2 ho2 hg2; have hr2 : RdI w2.heap.size w2 v2 (0 :: x) := RdI.of_own ho2)
    | (go_at_call 154; refine (C2.out _ _ hr2).mono ?_; rintro e w3 ⟨v3, rfl, ho3, hb3⟩)
    | (go_at_call 153; refine (C3.out _ _ ho3).mono ?_; rintro e w4 ⟨v4, rfl, ho4, hb4⟩))
  go_ret
  have s1 := hbe.size
  have s2 := hb1.size
  have hb2 := below_own hg2 (own_next hoe hb1) (Nat.le_refl _) (by omega)
  have s3 := hb2.size
  have s4 := hb3.size
  exact ⟨_, rfl, own_base ho4 (by omega), hbe.trans ((hb1.mono (by omega)).trans (hb2.trans ((hb3.mono (by omega)).trans (hb4.mono (by omega)))))⟩
end Go.Proofs.Ytfinekmegiengaa
