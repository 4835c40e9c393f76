/- The walks of layer 8: a list of doubles; the reference's coefficients. -/
import Derived.Test.YtfinekmegiengaaW08a
namespace Go.Proofs.Ytfinekmegiengaa
open Go.RowKit Nep
set_option maxRecDepth 100000
set_option linter.unusedVariables false
set_option linter.unusedSimpArgs false
set_option maxHeartbeats 1000000

theorem list_calls (v : Value) (b : List Nat) (n : Nat) {A : Int} (hA : A = n) (hn : n ≤ 256) (w : World) (hb : Bytes b) (hr : RdB w.heap.size w v b) (hl : b.length = 16) :
    Calls Try.prog 170 #[v, .int .i64 A] w (RetLE (maskL b n) w) := by
  subst hA
  have hne : ((b.length : Int) != 16) = false := by rw [hl]; rfl
  have hn0 : ((n : Int) < 0) = False := by simp
  have hn256 : decide ((n : Int) > 256) = false := by simp; omega
  have hn256' : decide ((256 : Int) < (n : Int)) = false := by simp; omega
  have hll : (bv b).length = 16 := by rw [bv_length, hl]
  obtain ⟨ad, c, hv, _, hB, hcell⟩ := RdS.addr hr (by intro h0; rw [h0] at hll; simp at hll)
  rw [hl] at hv
  subst hv
  have HL := Lib.hid hl
  clear hl
  go_enter Try.func170, Try.ntmps170
  go_wp2_with (first
    | (refine wpList_lenB hr rfl rfl rfl ?_)
    | (apply wpList_arrL; rfl; rfl; exact Try.underlying49; rfl; omega)
    | (refine wpList_loadArr (by rfl) rfl Try.underlying49 size_a16 rfl (bv b) hll hcell ?_)
    | (apply wpList_allocR _ _ zinfo_a16; rfl; rfl; intro gx w2 hgx1 hgx2 hrx hb2; rw [zero16] at hrx)
    | (apply wpList_storeRow hrx (bv b).toArray; rfl; rfl; rfl; rfl; (rw [List.size_toArray, hll]; exact size_a16); (rw [List.size_toArray, List.size_toArray, hll, bv_length, List.length_replicate]); exact bv_all b; intro w3 hw3 hr3 hs3; have HW3 := Lib.hid hw3; clear hw3))
  have hb3 : Below w.heap.size w w3 := by rw [HW3.out]; exact hb2.trans (below_row _ hgx1)
  have hlt3 := hr3.lt
  obtain ⟨B, hBe⟩ : ∃ B, B = gx + 1 := ⟨_, rfl⟩
  have hgB : gx < B := by omega
  have hwB : w.heap.size ≤ B := by omega
  have hB3 : B ≤ w3.heap.size := by omega
  clear hr hcell hrx hb2 HW3 hs3 hBe hlt3
  go_loopw [7, 23] (fun s i wr => ∃ k : Nat, k ≤ n ∧ i = .int .i64 k ∧ OwnG gx B wr s (maskL b k) ∧ Row wr gx 49 (bv (dblN b k)).toArray ∧ B ≤ wr.heap.size ∧ Below w.heap.size w wr) (fun _ i _ => n - (intOf i).toNat)
  case atStart => exact ⟨0, by omega, rfl, OwnG.nil _ _ _, hr3, hB3, hb3⟩
  case round =>
    obtain ⟨k, hk, rfl, hown, hrk, hBk, hbk⟩ := hrel
    clear hr3 hB3 hb3
    have hbs := hbk.size
    by_cases hlt : k < n
    · have hx := dblN_blk b HL.out hb k
      obtain ⟨x, hxe⟩ : ∃ x, x = dblN b k := ⟨_, rfl⟩
      obtain ⟨y, hye⟩ : ∃ y, y = dblL x := ⟨_, rfl⟩
      have hstep : dblN b (k + 1) = y := by rw [hye, hxe]; rfl
      have hmask : maskL b (k + 1) = maskL b k ++ [x] := by rw [maskL_snoc, hxe]
      rw [← hxe] at hx hrk
      have hxl : (bv x).length = 16 := by rw [bv_length, hx.1]
      have hyl : (bv y).length = 16 := by rw [hye, bv_length, dblL_length]
      have CT : RowKit.Hid (∀ w, Calls Try.prog 180 #[.agg (bv x).toArray] w (RetS x w)) := Lib.hid (fun w => told16_calls x hx.1 w)
      have CD : RowKit.Hid (∀ w, Calls Try.prog 181 #[.agg (bv x).toArray] w (RetB (blk y) w)) := Lib.hid (fun w => hye ▸ double_calls x hx.2 hx.1 w)
      have hml := maskL_length b k
      have HML := Lib.hid hml
      have HS := Lib.hid hstep
      have HM := Lib.hid hmask
      have hlt' := hrk.lt
      clear hstep hmask hxe hye hml
      go_wp2_with (first
        | (apply wpList_loadRow hrk hxl Try.underlying49 size_a16; rfl; rfl; rfl)
        | (go_at_call 180; refine (CT.out _).mono ?_; rintro e w4 ⟨v4, rfl, ho4, hb4⟩; have hown4 := hown.next hb4; have hrk4 := hrk.next hb4; have s4 := hb4.size)
        | (apply wpList_buildL1 v4; (obtain ⟨_, ay, cy, hye, _⟩ := RdB.of_own ho4; rw [hye]; rfl); rfl; rfl; rfl; intro gb wb hgb1 hgb2 hob hbb; have s5 := hbb.size)
        | (at_builtin; apply wpList_appendG (hown4.next hbb) ((RdB.of_own ho4).next hbb) (fun g hg => own_apart ho4 (hown.toL.block_lt g hg).2) (own_apart ho4 hlt') hob; rfl; rfl; rfl; rfl; rw [HML.out]; omega; omega; intro v6 w6 hown' hgr'; have hrk6 := (hrk4.next hbb).grown hgr' (fun h => by have := (hown4.next hbb).toL.block_lt _ h.symm; omega); have hb6 := below_ownL hgr' (hown4.next hbb).toL hwB (by omega))
        | (apply wpList_loadRow hrk6 hxl Try.underlying49 size_a16; rfl; rfl; rfl)
        | (go_at_call 181; refine (CD.out _).mono ?_; rintro e w7 ⟨rfl, hb7⟩; have hown7 := hown'.next hb7; have hrk7 := hrk6.next hb7)
        | (apply wpList_storeRow hrk7 (bv y).toArray; rfl; rfl; rfl; rfl; (rw [List.size_toArray, hyl]; exact size_a16); (rw [List.size_toArray, List.size_toArray, hyl, hxl]); exact bv_all y; intro w8 hw8 hr8 hs8; have HW8 := Lib.hid hw8; clear hw8))
      have s6 := hb6.size
      have s7 := hb7.size
      have hown8 : OwnG gx B w8 v6 (maskL b (k + 1)) := by rw [HW8.out, HM.out]; exact hown7.setRow _ hgB
      have hb8 : Below w.heap.size w w8 := by
        rw [HW8.out]
        exact ((hbk.trans (hb4.mono hbs)).trans ((hbb.mono (by omega)).trans (hb6.trans (hb7.mono (by omega))))).trans (below_row _ hgx1)
      have hB8 : B ≤ w8.heap.size := by rw [HW8.out, size_setRow]; omega
      go_roundw
      case rel => exact ⟨k + 1, by omega, by go_num, hown8, by rw [HS.out]; exact hr8, hB8, hb8⟩
      case measure => simp [intOf]; omega
    · go_wp2_with fail
      go_ret2
      obtain rfl : k = n := by omega
      exact ⟨_, rfl, hown.toL.base hwB, hbk⟩

theorem rbits_calls (v : Value) (b : List Nat) (w : World) (hb : Bytes b) (hr : RdB w.heap.size w v b) (hl : b.length = 16) :
    Calls Try.prog 155 #[v] w (RetOI (bitsN b 16) w) := by
  have hr0 := hr
  have HL := Lib.hid hl
  clear hl
  go_enter Try.func155, Try.ntmps155
  go_wp2_with (first | (apply wpList_buildI []; exact of_decide_eq_true rfl; rfl; rfl; rfl; intro g0 w0 hg01 hg02 hown0 hb0))
  clear hr
  go_loopw [3, 4] (fun s i wr => ∃ k : Nat, k ≤ 16 ∧ i = .int .i64 k ∧ wr.ownsRow w.heap.size 3 1 s (bitsN b k).length (iv (bitsN b k)) ∧ Below w.heap.size w wr) (fun _ i _ => 16 - (intOf i).toNat)
  case atStart => exact ⟨0, by omega, rfl, hown0, hb0⟩
  case round =>
    obtain ⟨k, hk, rfl, hown, hbk⟩ := hrel
    clear hown0 hb0
    have hrk := hr0.mono hbk
    by_cases hlt : k < 16
    · obtain ⟨x, hx⟩ : ∃ x, x = b.getD k 0 := ⟨_, rfl⟩
      have hx8 : x < 256 := hx ▸ hb.get k
      have hkl : k < b.length := by rw [HL.out]; exact hlt
      have e1 : ((b.getD k 0 : Nat) : Int) = x := by rw [hx]
      obtain ⟨P, hP⟩ : ∃ P, P = bitsN b k := ⟨_, rfl⟩
      have hPl : P.length = 8 * k := by rw [hP, bitsN_length]
      have hnext : bitsN b (k + 1) = P ++ bitsB x 8 := by rw [hP, hx]; rfl
      rw [← hP] at hown
      have HPL := Lib.hid hPl
      have HN := Lib.hid hnext
      have HE := Lib.hid e1
      clear hx e1 hP hPl hnext
      go_wp2_with (first | (apply wpList_indexB hrk k hkl; rfl; rfl; rfl; rfl; rfl; rw [HE.out]; intro p hp hcell; clear hrk))
      go_loopw [3, 5, 6] (fun s m i wi => ∃ j y : Nat, j ≤ 8 ∧ y < 256 ∧ i = .int .i64 j ∧ m = .int .i64 y ∧ Hid (y = x / 2 ^ j) ∧ wi.ownsRow w.heap.size 3 1 s (P ++ bitsB x j).length (iv (P ++ bitsB x j)) ∧ Below w.heap.size w wi) (fun _ _ i _ => 8 - (intOf i).toNat)
      case atStart => exact ⟨0, x, by omega, hx8, rfl, rfl, Lib.hid (by simp), by rw [show bitsB x 0 = [] from rfl, List.append_nil]; exact hown, hbk⟩
      case round =>
        obtain ⟨j, y, hj, hy8, rfl, rfl, hy, hoj, hbj⟩ := hrel
        clear hown hbk
        have hbs := hbj.size
        have hbl := bitsB_length x j
        by_cases hj8 : j < 8
        · have hsn : bitsB x (j + 1) = bitsB x j ++ [((y % 2 : Nat) : Int)] := by rw [bitsB_snoc, bitI, ← hy.out]
          have hyn : y / 2 = x / 2 ^ (j + 1) := by rw [hy.out, Nat.pow_succ, Nat.div_div_eq_div_mul]
          have e2 : ((y % 2 : Nat) : Int) = (y : Int) % 2 := by omega
          rw [e2] at hsn
          obtain ⟨P2, hP2⟩ : ∃ P2, P2 = P ++ bitsB x j := ⟨_, rfl⟩
          have hP2l : P2.length = 8 * k + j := by rw [hP2, List.length_append, HPL.out, hbl]
          have hP2n : P ++ bitsB x (j + 1) = P2 ++ [(y : Int) % 2] := by rw [hsn, hP2, List.append_assoc]
          rw [← hP2] at hoj
          have HP2L := Lib.hid hP2l
          have HP2N := Lib.hid hP2n
          have HYN := Lib.hid hyn
          clear hsn hyn e2 hP2 hP2l hP2n hbl hy
          go_wp2_with (first
            | (apply wpList_buildI [(y : Int) % 2]; exact of_decide_eq_true rfl; rfl; rfl; rfl; intro gb wb hgb1 hgb2 hob hbb)
            | (at_builtin; apply wpList_appendI (own_next hoj hbb) (RdI.of_own hob); rfl; rfl; rfl; rfl; rw [HP2L.out]; simp; omega; (have := hbb.size; omega); intro v' w' hown' hgr'))
          have hb' := below_own hgr' (own_next hoj hbb) (Nat.le_refl _) (by have := hbb.size; omega)
          go_roundw
          case rel => exact ⟨j + 1, y / 2, by omega, by omega, by go_num, by go_num, HYN, by rw [HP2N.out]; exact hown', hbj.trans ((hbb.mono hbs).trans hb')⟩
          case measure => simp [intOf]; omega
        · obtain rfl : j = 8 := by omega
          rw [← HN.out] at hoj
          clear hbl hy
          go_wp2_with fail
          go_roundw
          case rel => exact ⟨k + 1, by omega, by go_num, hoj, hbj⟩
          case measure => simp [intOf]; omega
    · go_wp2_with fail
      go_ret
      obtain rfl : k = 16 := by omega
      exact ⟨_, rfl, hown, hbk⟩
end Go.Proofs.Ytfinekmegiengaa
