/- The walks of the references of layer 7: a block's columns, mixed. -/
import Derived.Test.YtfinekmegiengaaW07k
import Derived.Deep.DrawnRows
import Derived.Test.YtfinekmegiengaaMem8
namespace Go.Proofs.Ytfinekmegiengaa
open Go.RowKit Nep
set_option maxRecDepth 100000
set_option linter.unusedVariables false
set_option linter.unusedSimpArgs false
set_option maxHeartbeats 1000000
attribute [local go_sem ↓] Go.wp_at_zero Go.wp_at_succ

theorem rmixed_calls (v : Value) (b : List Nat) (m0 m1 m2 m3 : Nat) (w : World) (hm : Bytes [m0, m1, m2, m3]) (hb : Bytes b) (hr : RdB w.heap.size w v b) (hl : b.length = 16) :
    Calls Try.prog 116 #[v, blk [m0, m1, m2, m3]] w (RetS (mixL [m0, m1, m2, m3] b) w) := by
  obtain ⟨ad, cap, hv, hcap, hB, hcells⟩ := RdS.addr hr (by intro h0; have := bv_length b; rw [h0] at this; simp at this; omega)
  rw [hl] at hv hcap
  subst hv
  obtain ⟨vm, hvm⟩ : ∃ vm, vm = blk [m0, m1, m2, m3] := ⟨_, rfl⟩
  have HL := Lib.hid hl
  have HC : RowKit.Hid (∀ i, i < 16 → w.cell? (ad.add i) = some (.int .u8 ((b.getD i 0 : Nat) : Int))) := Lib.hid (fun i hi => hcells i _ (bv_get b i (by omega)))
  rw [← hvm]
  clear hl hcells
  go_enter Try.func116, Try.ntmps116
  go_wp2_with (first
    | (apply wpList_boxR vm; rfl; rfl; rfl; intro gm w1 hgm1 hgm2 hrm hb1)
    | (apply wpList_buildB []; exact of_decide_eq_true rfl; rfl; rfl; rfl; intro g0 w0 hg01 hg02 hown0 hb0))
  have hrm0 : Row w0 gm 132 (blk [m0, m1, m2, m3]).cells := by rw [← hvm]; exact hrm.next hb0
  have hown1 := hown0
  have hs01 := hb0.size
  have hs11 := hb1.size
  obtain ⟨B1, hB1⟩ : ∃ n, n = w1.heap.size := ⟨_, rfl⟩
  rw [← hB1] at hown1 hs01 hs11 hgm2
  have hb2 := hb1.trans (hb0.mono hb1.size)
  clear hr hrm hown0 hb0 hvm hg01 hb1 hB1
  go_loopw [5, 6] (fun s i wr => ∃ k : Nat, k ≤ 4 ∧ i = .int .i64 k ∧ wr.ownsRow B1 5 1 s (mixN [m0, m1, m2, m3] b k).length (bv (mixN [m0, m1, m2, m3] b k)) ∧ B1 ≤ wr.heap.size ∧ Row wr gm 132 #[.int .u8 m0, .int .u8 m1, .int .u8 m2, .int .u8 m3] ∧ Below w.heap.size w wr) (fun _ i _ => 4 - (intOf i).toNat)
  case atStart => exact ⟨0, by omega, rfl, hown1, hs01, hrm0, hb2⟩
  case round =>
    obtain ⟨k, hk, rfl, hown, hB1k, hrk, hbk⟩ := hrel
    clear hown1 hrm0 hb2
    have hbs := hbk.size
    have hml : (mixN [m0, m1, m2, m3] b k).length = 4 * k := mixN_length _ _ _
    by_cases hlt : k < 4
    · obtain ⟨b0, b1, b2, b3, hbe⟩ := four (l := (b.drop (4 * k)).take 4) (by rw [List.length_take, List.length_drop, HL.out]; omega)
      have hg : ∀ i, i < 4 → b.getD (4 * k + i) 0 = ((b.drop (4 * k)).take 4).getD i 0 := fun i hi => by
        simp [List.getElem?_take, hi, List.getElem?_drop]
      have h0 := hg 0 (by omega)
      have h1 := hg 1 (by omega)
      have h2 := hg 2 (by omega)
      have h3 := hg 3 (by omega)
      rw [hbe] at h0 h1 h2 h3
      have hB4 : Bytes [b0, b1, b2, b3] := hbe ▸ (hb.drop _).take _
      obtain ⟨r0, r1, r2, r3, hre⟩ := four (mixC_length [m0, m1, m2, m3] [b0, b1, b2, b3])
      have hnext : mixN [m0, m1, m2, m3] b (k + 1) = mixN [m0, m1, m2, m3] b k ++ [r0, r1, r2, r3] := by
        rw [mixN, hbe, hre]
      have C : RowKit.Hid (∀ w, Calls Try.prog 149 #[.agg #[.int .u8 b0, .int .u8 b1, .int .u8 b2, .int .u8 b3], .agg #[.int .u8 m0, .int .u8 m1, .int .u8 m2, .int .u8 m3]] w (RetB (.agg #[.int .u8 r0, .int .u8 r1, .int .u8 r2, .int .u8 r3]) w)) := Lib.hid (fun w => by
        have h := rturned05_calls [b0, b1, b2, b3] [m0, m1, m2, m3] hB4 hm rfl rfl w
        rw [hre] at h
        exact h)
      have cell : ∀ i, i < 16 → wr.drew.cell? (ad.add i) = some (.int .u8 ((b.getD i 0 : Nat) : Int)) := fun i hi => (hbk.cell (by rw [blk_add]; exact hB)).trans (HC.out i hi)
      have c0 := cell (4 * k + 0) (by omega)
      have c1 := cell (4 * k + 1) (by omega)
      have c2 := cell (4 * k + 2) (by omega)
      have c3 := cell (4 * k + 3) (by omega)
      rw [h0] at c0
      rw [h1] at c1
      rw [h2] at c2
      rw [h3] at c3
      obtain ⟨q, hq⟩ : ∃ q, q = 4 * k := ⟨_, rfl⟩
      obtain ⟨q1, hq1⟩ : ∃ q, q = 4 * k + 1 := ⟨_, rfl⟩
      obtain ⟨q2, hq2⟩ : ∃ q, q = 4 * k + 2 := ⟨_, rfl⟩
      obtain ⟨q3, hq3⟩ : ∃ q, q = 4 * k + 3 := ⟨_, rfl⟩
      have e0 : IntKind.i64.wrap (4 * (k : Int)) = (q : Int) := by rw [hq, IntWalk.i64_in _ (by omega)]; omega
      have e1 : IntKind.i64.wrap ((q : Int) + 1) = (q1 : Int) := by rw [hq1, hq, IntWalk.i64_in _ (by omega)]; omega
      have e2 : IntKind.i64.wrap ((q : Int) + 2) = (q2 : Int) := by rw [hq2, hq, IntWalk.i64_in _ (by omega)]; omega
      have e3 : IntKind.i64.wrap ((q : Int) + 3) = (q3 : Int) := by rw [hq3, hq, IntWalk.i64_in _ (by omega)]; omega
      rw [Nat.add_zero, ← hq] at c0
      rw [← hq1] at c1
      rw [← hq2] at c2
      rw [← hq3] at c3
      have l0 : (q : Int) < 16 := by omega
      have l1 : (q1 : Int) < 16 := by omega
      have l2 : (q2 : Int) < 16 := by omega
      have l3 : (q3 : Int) < 16 := by omega
      simp only [List.getD_cons_zero, List.getD_cons_succ] at c0 c1 c2 c3
      have d0 : wr.drew.cell? ⟨gm, 0, none⟩ = some (.int .u8 m0) := Row.cell (w := wr.drew) hrk rfl
      have d1 : wr.drew.cell? ⟨gm, 1, none⟩ = some (.int .u8 m1) := Row.cell (w := wr.drew) hrk rfl
      have d2 : wr.drew.cell? ⟨gm, 2, none⟩ = some (.int .u8 m2) := Row.cell (w := wr.drew) hrk rfl
      have d3 : wr.drew.cell? ⟨gm, 3, none⟩ = some (.int .u8 m3) := Row.cell (w := wr.drew) hrk rfl
      have HN := Lib.hid hnext
      have HML := Lib.hid hml
      have hBr : ad.block < wr.heap.size := Nat.lt_of_lt_of_le hB hbs
      have hgr := hrk.lt
      have up : ∀ {p : Addr} {x : Value}, wr.drew.cell? p = some x → p.block < wr.heap.size → ∀ w', Below wr.heap.size wr.drew w' → w'.cell? p = some x := fun hc hp w' hb => (hb.cell hp).trans hc
      have K0 := up c0 (by rw [blk_add]; exact hBr)
      have K1 := up c1 (by rw [blk_add]; exact hBr)
      have K2 := up c2 (by rw [blk_add]; exact hBr)
      have K3 := up c3 (by rw [blk_add]; exact hBr)
      have J0 := up d0 hgr
      have J1 := up d1 hgr
      have J2 := up d2 hgr
      have J3 := up d3 hgr
      have hS0 := Below.refl wr.heap.size wr.drew
      clear up c0 c1 c2 c3 d0 d1 d2 d3
      clear hnext hml h0 h1 h2 h3 hq hq1 hq2 hq3 cell hg hbe hre
      go_wp2_with fail
      go_region_held3 (fun w' => Below wr.heap.size wr.drew w')
        (first | exact Below.refl _ _ | exact (‹Below _ wr.drew _›).trans (hb3.mono (‹Below _ wr.drew _›).size) | exact (‹Below _ wr.drew _›).alloc (‹Below _ wr.drew _›).size _ | (refine Below.setCell (Below.setCell (Below.setCell (Below.setCell (‹Below _ wr.drew _›) ?_ _) ?_ _) ?_ _) ?_ _ <;> first | exact Nat.le_refl _ | exact hb3.size))
        (first | (go_at_call 149; refine (C.out _).mono ?_; rintro e w3 ⟨rfl, hb3⟩; obtain ⟨hq1, hq2⟩ := bcell hb3))
      all_goals
        have hH := (Below.refl wr.heap.size wr).drew.trans (‹Below _ wr.drew _›)
        have hown2 := own_next hown hH
        have hrk2 := hrk.next hH
        have hbk2 := hbk.trans (hH.mono hbs)
        have hbs2 := hbk2.size
        have hB2 := Nat.le_trans hB1k hH.size
        go_wp2_with (first
          | (apply wpList_buildB [r0, r1, r2, r3]; exact of_decide_eq_true rfl; rfl; rfl; rfl; intro gb wb hgb1 hgb2 hob hbb)
          | (at_builtin; apply wpList_appendB (own_next hown2 hbb) (RdB.of_own hob); rfl; rfl; rfl; rfl; rw [HML.out]; simp; omega; exact Nat.le_trans hB2 hbb.size; intro v' w' hown' hgr'))
        have hb' := below_own hgr' (own_next hown2 hbb) hs11 (Nat.le_trans hbs2 hbb.size)
        have hrk3 := hrk2.next hbb
        go_roundw
        case rel => exact ⟨k + 1, by omega, by go_num, by rw [HN.out]; exact hown', Nat.le_trans (Nat.le_trans hB2 hbb.size) hgr'.size, hrk3.grown hgr' (fun h => by have := (own_next hown2 hbb).lt _ h.symm; omega), (hbk2.trans (hbb.mono hbs2)).trans hb'⟩
        case measure => simp [intOf]; omega
    · go_wp2_with fail
      go_ret
      obtain rfl : k = 4 := by omega
      exact ⟨_, rfl, own_base hown hs11, hbk⟩
end Go.Proofs.Ytfinekmegiengaa
