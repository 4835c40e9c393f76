/- The walk of the law SlotBytes. -/
import Derived.Test.YtfinekmegiengaaL17r
namespace Go.Proofs.Ytfinekmegiengaa
open Go.RowKit Nep
set_option maxRecDepth 100000
set_option linter.unusedVariables false
set_option linter.unusedSimpArgs false
set_option maxHeartbeats 4000000

theorem sbl_long (u : Bool) (s : Int) (e c : Nat) (av : Option Addr) (kk : Nat) (l : List Nat) (w : World) (hlb : Bytes l) (hr : RdB w.heap.size w (.slice av l.length kk) l) (f1 : decide ((1000 : Int) < (l.length : Int)) = true) : Calls Try.prog 16 #[slotV u s e c (.slice av l.length kk)] w (RetB (.bool true) w) := by
  obtain ⟨v1, hv1⟩ : ∃ v1, v1 = slotV u s e c (.slice av l.length kk) := ⟨_, rfl⟩
  have HV1 := Lib.hid hv1
  rw [← hv1]
  clear hv1
  go_enter Try.func16, Try.ntmps16
  go_wp2_with (first
    | (apply wpList_boxR v1; rfl; rfl; rfl; intro g1 w1 hg1 hg1' hr1 hb1; rw [HV1.out] at hr1; have hs1 := hr.next hb1; obtain ⟨a0, a1, a2, a3, a4⟩ := row5 hr1)
    | (go_at_call 53; refine (awake17 _).mono ?_; rintro x wz ⟨rfl, hbz⟩)
    | fail)
  go_ret
  exact RetB.mk rfl (hb1.trans (hbz.mono hb1.size))
theorem sbl_bad (u : Bool) (s : Int) (e c : Nat) (av : Option Addr) (kk : Nat) (l : List Nat) (w : World) (hlb : Bytes l) (hr : RdB w.heap.size w (.slice av l.length kk) l) (hn : l.length ≤ 1000) (hok : slotOk u s e c l.length = false) : Calls Try.prog 16 #[slotV u s e c (.slice av l.length kk)] w (RetB (.bool true) w) := by
  obtain ⟨v1, hv1⟩ : ∃ v1, v1 = slotV u s e c (.slice av l.length kk) := ⟨_, rfl⟩
  have HV1 := Lib.hid hv1
  rw [← hv1]
  clear hv1
  have f1 : decide ((1000 : Int) < (l.length : Int)) = false := by simp; omega
  have CB : RowKit.Hid (∀ av kk w, RdB w.heap.size w (.slice av l.length kk) l → Calls Try.prog 62 #[.agg #[.bool u, .int .i64 s, .int .u64 (e : Int), .int .u64 (c : Int), .slice av l.length kk]] w (RetE 2 w)) := Lib.hid (fun av kk w h => sbytes_bad u s e c _ l w h hok)
  have CC : RowKit.Hid (∀ av kk w, RdB w.heap.size w (.slice av l.length kk) l → Calls Try.prog 63 #[.agg #[.bool u, .int .i64 s, .int .u64 (e : Int), .int .u64 (c : Int), .slice av l.length kk]] w (RetSo u s e c l w)) := Lib.hid (fun av kk w h => scopy_calls u s e c (.slice av l.length kk) l w h hn)
  have CR : RowKit.Hid (∀ av kk w, RdB w.heap.size w (.slice av l.length kk) l → Calls Try.prog 64 #[.agg #[.bool u, .int .i64 s, .int .u64 (e : Int), .int .u64 (c : Int), .slice av l.length kk]] w (RetB (.bool false) w)) := Lib.hid (fun av kk w h => by have h2 := sright_calls u s e c (.slice av l.length kk) l w h; rw [hok] at h2; exact h2)
  have CQ : RowKit.Hid (∀ av kk w, RdB w.heap.size w (.slice av l.length kk) l → Calls Try.prog 65 #[.agg #[.bool u, .int .i64 s, .int .u64 (e : Int), .int .u64 (c : Int), .slice av l.length kk]] w (RetB (.bool false) w)) := Lib.hid (fun av kk w h => by have h2 := rsright_calls u s e c (.slice av l.length kk) l w h; rw [hok] at h2; exact h2)
  have CO : RowKit.Hid (∀ av kk w, Calls Try.prog 52 #[.agg #[.bool u, .int .i64 s, .int .u64 (e : Int), .int .u64 (c : Int), .slice av l.length kk]] w (RetB (.agg #[.bool u, .int .i64 s, .int .u64 (e : Int), .int .u64 (c : Int), .slice av l.length kk]) w)) := Lib.hid (fun av kk w => of_calls u s e c av l.length kk w)
  have CS : RowKit.Hid (∀ av kk av2 k2 w, RdB w.heap.size w (.slice av l.length kk) l → RdB w.heap.size w (.slice av2 l.length k2) l → Calls Try.prog 60 #[.agg #[.bool u, .int .i64 s, .int .u64 (e : Int), .int .u64 (c : Int), .slice av l.length kk], .agg #[.bool u, .int .i64 s, .int .u64 (e : Int), .int .u64 (c : Int), .slice av2 l.length k2]] w (RetB (.bool true) w)) := Lib.hid (fun av kk av2 k2 w a d => rsame_true u s e c _ _ l w (by omega) a d)
  have HN := Lib.hid hn
  clear hok hn
  go_enter Try.func16, Try.ntmps16
  go_wp2_with (first
    | (apply wpList_boxR v1; rfl; rfl; rfl; intro g1 w1 hg1 hg1' hr1 hb1; rw [HV1.out] at hr1; have hs1 := hr.next hb1; obtain ⟨a0, a1, a2, a3, a4⟩ := row5 hr1)
    | (go_at_call 62; (with_reducible refine (CB.out _ _ _ hs1).mono ?_); rintro x w2 ⟨rfl, hb2⟩; have hs2 := hs1.next hb2; have hr12 := hr1.next hb2; obtain ⟨b0, b1, b2, b3, b4⟩ := row5 hr12)
    | (go_at_call 63; (with_reducible refine (CC.out av kk _ hs2).mono ?_); rintro x w3 ⟨ca, ck, rfl, hco3, hb3⟩; have hs3 := hs2.next hb3; have hr13 := hr12.next hb3; unfold slotV)
    | (apply wpList_allocR (w := w3) (.agg #[.bool false, .int .i64 0, .int .u64 0, .int .u64 0, .slice none 0 0]) 5; kernel_rfl; rfl; rfl; intro g5 w4 hg5 hg5' hr5 hb4)
    | (apply wpList_storeRow hr5 #[.bool u, .int .i64 s, .int .u64 (e : Int), .int .u64 (c : Int), .slice ca l.length ck]; rfl; rfl; rfl; rfl; kernel_rfl; rfl; (simp [Value.oneCell']); intro w5 hw5 hr55 hsz5; have hb35 : Below w3.heap.size w3 w5 := hb4.trans (by rw [hw5]; exact below_row _ hg5); have hs5 := hs3.next hb35; have hr15 := hr13.next hb35; have hco5 := own_next hco3 hb35; obtain ⟨c0, c1, c2, c3, c4⟩ := row5 hr55; clear hw5)
    | (go_at_call 63; (with_reducible refine (CC.out ca ck _ (RdB.of_own hco5)).mono ?_); rintro x w6 ⟨da, dk, rfl, hdo6, hb6⟩; have hs6 := hs5.next hb6; have hr16 := hr15.next hb6; have hr56 := hr55.next hb6; have hco6 := own_next hco5 hb6; unfold slotV)
    | (apply wpList_allocR (w := w6) (.agg #[.bool false, .int .i64 0, .int .u64 0, .int .u64 0, .slice none 0 0]) 5; kernel_rfl; rfl; rfl; intro g7 w7 hg7 hg7' hr7 hb7)
    | (apply wpList_storeRow hr7 #[.bool u, .int .i64 s, .int .u64 (e : Int), .int .u64 (c : Int), .slice da l.length dk]; rfl; rfl; rfl; rfl; kernel_rfl; rfl; (simp [Value.oneCell']); intro w8 hw8 hr78 hsz8; have hb68 : Below w6.heap.size w6 w8 := hb7.trans (by rw [hw8]; exact below_row _ hg7); have hs8 := hs6.next hb68; have hr18 := hr16.next hb68; have hr58 := hr56.next hb68; have hco8 := own_next hco6 hb68; have hdo8 := own_next hdo6 hb68; clear hw8)
    | fail)
  clear a0 a1 a2 a3 a4 b0 b1 b2 b3 b4 c0 c1 c2 c3 c4
  have s1 := hb1.size
  have s2 := hb2.size
  have s3 := hb3.size
  have s5 := hb35.size
  have s6 := hb6.size
  have s8 := hb68.size
  have hb28 : Below w2.heap.size w2 w8 := hb3.trans ((hb35.mono s3).trans ((hb6.mono (by omega)).trans (hb68.mono (by omega))))
  have hcl : ∀ g, (Value.slice ca l.length ck).ownBlock = some g → w2.heap.size ≤ g ∧ g < w3.heap.size := fun g h => hco3.lt g h
  go_loopw [7] (fun i wr => ∃ (k : Nat) (xs : List Nat), k ≤ l.length ∧ i = .int .i64 k ∧ xs.length = l.length ∧ Bytes xs ∧ wr.ownsRow w2.heap.size 5 1 (.slice ca l.length ck) l.length (bv xs) ∧ Row wr g5 55 #[.bool u, .int .i64 s, .int .u64 (e : Int), .int .u64 (c : Int), .slice ca l.length ck] ∧ Row wr g7 55 #[.bool u, .int .i64 s, .int .u64 (e : Int), .int .u64 (c : Int), .slice da l.length dk] ∧ wr.ownsRow w5.heap.size 5 1 (.slice da l.length dk) l.length (bv l) ∧ Below w2.heap.size w2 wr) (fun i _ => l.length - (intOf i).toNat)
  case atStart => exact ⟨0, l, by omega, rfl, rfl, hlb, hco8, hr58, hr78, hdo8, hb28⟩
  case round =>
    obtain ⟨k, xs, hk, rfl, hxl, hxb, hcr, hr5r, hr7r, hdr, hbr⟩ := hrel
    clear hco8 hr58 hr78 hdo8 hb28 hco6 hco5 hco3 hr56 hr55 hr5 hr7 hdo6
    by_cases hlt : k < l.length
    · obtain ⟨gc, cc, hcv⟩ := own_slice hcr (by omega)
      have hgc := hcl gc (by rw [hcv]; rfl)
      injection hcv with q1 q2 q3
      subst q1
      obtain ⟨x, hx⟩ : ∃ x, x = xs.getD k 0 := ⟨_, rfl⟩
      have hx8 : x < 256 := by rw [hx]; exact hxb.get k
      have hcell : wr.cell? ⟨gc, k, none⟩ = some (.int .u8 (x : Int)) := own_cell hcr (by rw [bv_get _ _ (by omega), ← hx])
      have hfz : wr.frozen? ⟨gc, k, none⟩ = false := own_frozen hcr k
      obtain ⟨c0, c1, c2, c3, c4⟩ := row5 hr5r
      have hxe : bits .xor .u8 (x : Int) 255 = ((x ^^^ 255 : Nat) : Int) := u8_xor_nat x 255 hx8 (by omega)
      obtain ⟨y, hy⟩ : ∃ y, y = x ^^^ 255 := ⟨_, rfl⟩
      rw [← hy] at hxe
      have hy8 : y < 256 := by rw [hy]; exact Nat.xor_lt_two_pow (n := 8) hx8 (by omega)
      have hset := own_set hcr k hlt (.int .u8 (y : Int))
      have hbs : (bv xs).set k (.int .u8 (y : Int)) = bv (xs.set k y) := by simp [bv, List.map_set]
      rw [hbs] at hset
      have hl1 : (k : Int) < (l.length : Int) := by omega
      have hnn : l.length ≤ 1000 := HN.out
      have h5o := hr5r.other (p := ⟨gc, k, none⟩) (show g5 ≠ gc by omega) (.int .u8 (y : Int))
      have h7o := hr7r.other (p := ⟨gc, k, none⟩) (show g7 ≠ gc by omega) (.int .u8 (y : Int))
      have hdo := own_setCell hdr (k := gc) (i := k) (show gc < w5.heap.size by omega) (.int .u8 (y : Int))
      have hbo := hbr.setCell (p := ⟨gc, k, none⟩) (by exact hgc.1) (.int .u8 (y : Int))
      have hxb2 : Bytes (xs.set k y) := fun v hv => by
        rcases List.mem_or_eq_of_mem_set hv with h | h
        · exact hxb v h
        · rw [h]; exact hy8
      clear hx hy hbs hcr hr5r hr7r hdr
      go_wp2_with fail
      go_roundw
      case rel => exact ⟨k + 1, xs.set k y, by omega, by go_num, by rw [List.length_set]; exact hxl, hxb2, hset, h5o, h7o, hdo, hbo⟩
      case measure => simp [intOf]; omega
    · have hs0 := (hs2.mono hbr).up hbr.size
      have hr10 := hr12.next hbr
      have hd0 := RdB.of_own hdr
      obtain ⟨K0, K1, K2, K3, K4⟩ := row5_at hr10
      obtain ⟨M0, M1, M2, M3, M4⟩ := row5_at hr7r
      obtain ⟨c0, c1, c2, c3, c4⟩ := row5 hr5r
      go_upto_region 10 with fail
      clear c0 c1 c2 c3 c4
      go_region_held3 (fun w' => Below wr.heap.size wr.drew w')
        (first | (with_reducible exact Below.refl _ _) | (with_reducible exact hSa) | (with_reducible exact hSb) | (with_reducible exact hSc) | (with_reducible exact hSd) | fail)
        (first
          | (go_at_call 64; (with_reducible refine (CR.out _ _ _ (hs0.next (Below.drewn (by assumption)))).mono ?_); rintro x wa ⟨rfl, hba⟩; have hSa := below_call (w := wr) hba (by assumption))
          | (go_at_call 52; (with_reducible refine (CO.out _ _ _).mono ?_); rintro x wb ⟨rfl, hbb⟩; have hSb := below_call (w := wr) hbb (by assumption))
          | (go_at_call 65; (with_reducible refine (CQ.out _ _ _ (hs0.next (Below.drewn (by assumption)))).mono ?_); rintro x wc ⟨rfl, hbc⟩; have hSc := below_call (w := wr) hbc (by assumption))
          | (go_at_call 60; (with_reducible refine (CS.out _ _ _ _ _ (hd0.next (Below.drewn (by assumption))) (hs0.next (Below.drewn (by assumption)))).mono ?_); rintro x wd ⟨rfl, hbd⟩; have hSd := below_call (w := wr) hbd (by assumption))
          | fail)
      all_goals
        have hH := Below.drewn ‹Below _ wr.drew _›
        have hsH := hs0.next hH
        have hrH := hr10.next hH
        have hbH : Below w.heap.size w _ := hb1.trans ((hb2.mono s1).trans ((hbr.mono (Nat.le_trans s1 s2)).trans (hH.mono (Nat.le_trans s1 (Nat.le_trans s2 hbr.size)))))
        have sH := hbH.size
        clear K0 K1 K2 K3 K4 M0 M1 M2 M3 M4
        obtain ⟨c0, c1, c2, c3, c4⟩ := row5 hrH
        go_wp2_with (first
          | (go_at_call 52; (with_reducible refine (CO.out _ _ _).mono ?_); rintro x we ⟨rfl, hbe⟩; have hse := hsH.next hbe; have hre := hrH.next hbe)
          | (go_at_call 65; (with_reducible refine (CQ.out _ _ _ hse).mono ?_); rintro x wf ⟨rfl, hbf⟩; have hsf := hse.next hbf; have hrf := hre.next hbf)
          | (go_at_call 53; refine (awake17 _).mono ?_; rintro x wz ⟨rfl, hbz⟩)
          | fail)
        go_ret
        have se := hbe.size
        have sf := hbf.size
        exact RetB.mk rfl (hbH.trans ((hbe.mono sH).trans ((hbf.mono (by omega)).trans (hbz.mono (by omega)))))
theorem sbl_good (u : Bool) (s : Int) (e c : Nat) (av : Option Addr) (kk : Nat) (l : List Nat) (w : World) (hlb : Bytes l) (hr : RdB w.heap.size w (.slice av l.length kk) l) (hn : l.length ≤ 1000) (hok : slotOk u s e c l.length = true) (z : List Nat) (hzl : z.length ≤ 1000) (hB : ∀ v w, RdB w.heap.size w v l → Calls Try.prog 62 #[slotV u s e c v] w (RetSE z w)) (hRB : ∀ v w, RdB w.heap.size w v l → Calls Try.prog 66 #[slotV u s e c v] w (RetS z w)) (hRd : ∀ v w, RdB w.heap.size w v z → Calls Try.prog 59 #[v] w (RetSr u s e c l w)) : Calls Try.prog 16 #[slotV u s e c (.slice av l.length kk)] w (RetB (.bool true) w) := by
  obtain ⟨v1, hv1⟩ : ∃ v1, v1 = slotV u s e c (.slice av l.length kk) := ⟨_, rfl⟩
  have HV1 := Lib.hid hv1
  rw [← hv1]
  clear hv1
  have f1 : decide ((1000 : Int) < (l.length : Int)) = false := by simp; omega
  have CB : RowKit.Hid (∀ av kk w, RdB w.heap.size w (.slice av l.length kk) l → Calls Try.prog 62 #[.agg #[.bool u, .int .i64 s, .int .u64 (e : Int), .int .u64 (c : Int), .slice av l.length kk]] w (RetSE z w)) := Lib.hid (fun av kk w h => hB _ w h)
  have CC : RowKit.Hid (∀ av kk w, RdB w.heap.size w (.slice av l.length kk) l → Calls Try.prog 63 #[.agg #[.bool u, .int .i64 s, .int .u64 (e : Int), .int .u64 (c : Int), .slice av l.length kk]] w (RetSo u s e c l w)) := Lib.hid (fun av kk w h => scopy_calls u s e c (.slice av l.length kk) l w h hn)
  have CR : RowKit.Hid (∀ av kk w, RdB w.heap.size w (.slice av l.length kk) l → Calls Try.prog 64 #[.agg #[.bool u, .int .i64 s, .int .u64 (e : Int), .int .u64 (c : Int), .slice av l.length kk]] w (RetB (.bool true) w)) := Lib.hid (fun av kk w h => by have h2 := sright_calls u s e c (.slice av l.length kk) l w h; rw [hok] at h2; exact h2)
  have CQ : RowKit.Hid (∀ av kk w, RdB w.heap.size w (.slice av l.length kk) l → Calls Try.prog 65 #[.agg #[.bool u, .int .i64 s, .int .u64 (e : Int), .int .u64 (c : Int), .slice av l.length kk]] w (RetB (.bool true) w)) := Lib.hid (fun av kk w h => by have h2 := rsright_calls u s e c (.slice av l.length kk) l w h; rw [hok] at h2; exact h2)
  have CO : RowKit.Hid (∀ av kk w, Calls Try.prog 52 #[.agg #[.bool u, .int .i64 s, .int .u64 (e : Int), .int .u64 (c : Int), .slice av l.length kk]] w (RetB (.agg #[.bool u, .int .i64 s, .int .u64 (e : Int), .int .u64 (c : Int), .slice av l.length kk]) w)) := Lib.hid (fun av kk w => of_calls u s e c av l.length kk w)
  have CS : RowKit.Hid (∀ av kk av2 k2 w, RdB w.heap.size w (.slice av l.length kk) l → RdB w.heap.size w (.slice av2 l.length k2) l → Calls Try.prog 60 #[.agg #[.bool u, .int .i64 s, .int .u64 (e : Int), .int .u64 (c : Int), .slice av l.length kk], .agg #[.bool u, .int .i64 s, .int .u64 (e : Int), .int .u64 (c : Int), .slice av2 l.length k2]] w (RetB (.bool true) w)) := Lib.hid (fun av kk av2 k2 w a d => rsame_true u s e c _ _ l w (by omega) a d)
  have CZ : RowKit.Hid (∀ av kk w, RdB w.heap.size w (.slice av l.length kk) l → Calls Try.prog 66 #[.agg #[.bool u, .int .i64 s, .int .u64 (e : Int), .int .u64 (c : Int), .slice av l.length kk]] w (RetS z w)) := Lib.hid (fun av kk w h => hRB _ w h)
  have CD := Lib.hid hRd
  have QL := same_true z (by omega)
  clear hB hRB hRd
  have HN := Lib.hid hn
  clear hok hn
  go_enter Try.func16, Try.ntmps16
  go_wp2_with (first
    | (apply wpList_boxR v1; rfl; rfl; rfl; intro g1 w1 hg1 hg1' hr1 hb1; rw [HV1.out] at hr1; have hs1 := hr.next hb1; obtain ⟨a0, a1, a2, a3, a4⟩ := row5 hr1)
    | (go_at_call 62; (with_reducible refine (CB.out _ _ _ hs1).mono ?_); rintro x w2 ⟨vz, rfl, hzo2, hb2⟩; have hs2 := hs1.next hb2; have hr12 := hr1.next hb2; obtain ⟨b0, b1, b2, b3, b4⟩ := row5 hr12)
    | (go_at_call 63; (with_reducible refine (CC.out av kk _ hs2).mono ?_); rintro x w3 ⟨ca, ck, rfl, hco3, hb3⟩; have hs3 := hs2.next hb3; have hr13 := hr12.next hb3; unfold slotV)
    | (apply wpList_allocR (w := w3) (.agg #[.bool false, .int .i64 0, .int .u64 0, .int .u64 0, .slice none 0 0]) 5; kernel_rfl; rfl; rfl; intro g5 w4 hg5 hg5' hr5 hb4)
    | (apply wpList_storeRow hr5 #[.bool u, .int .i64 s, .int .u64 (e : Int), .int .u64 (c : Int), .slice ca l.length ck]; rfl; rfl; rfl; rfl; kernel_rfl; rfl; (simp [Value.oneCell']); intro w5 hw5 hr55 hsz5; have hb35 : Below w3.heap.size w3 w5 := hb4.trans (by rw [hw5]; exact below_row _ hg5); have hs5 := hs3.next hb35; have hr15 := hr13.next hb35; have hco5 := own_next hco3 hb35; obtain ⟨c0, c1, c2, c3, c4⟩ := row5 hr55; clear hw5)
    | (go_at_call 63; (with_reducible refine (CC.out ca ck _ (RdB.of_own hco5)).mono ?_); rintro x w6 ⟨da, dk, rfl, hdo6, hb6⟩; have hs6 := hs5.next hb6; have hr16 := hr15.next hb6; have hr56 := hr55.next hb6; have hco6 := own_next hco5 hb6; unfold slotV)
    | (apply wpList_allocR (w := w6) (.agg #[.bool false, .int .i64 0, .int .u64 0, .int .u64 0, .slice none 0 0]) 5; kernel_rfl; rfl; rfl; intro g7 w7 hg7 hg7' hr7 hb7)
    | (apply wpList_storeRow hr7 #[.bool u, .int .i64 s, .int .u64 (e : Int), .int .u64 (c : Int), .slice da l.length dk]; rfl; rfl; rfl; rfl; kernel_rfl; rfl; (simp [Value.oneCell']); intro w8 hw8 hr78 hsz8; have hb68 : Below w6.heap.size w6 w8 := hb7.trans (by rw [hw8]; exact below_row _ hg7); have hs8 := hs6.next hb68; have hr18 := hr16.next hb68; have hr58 := hr56.next hb68; have hco8 := own_next hco6 hb68; have hdo8 := own_next hdo6 hb68; clear hw8)
    | fail)
  clear a0 a1 a2 a3 a4 b0 b1 b2 b3 b4 c0 c1 c2 c3 c4
  have s1 := hb1.size
  have s2 := hb2.size
  have s3 := hb3.size
  have s5 := hb35.size
  have s6 := hb6.size
  have s8 := hb68.size
  have hb28 : Below w2.heap.size w2 w8 := hb3.trans ((hb35.mono s3).trans ((hb6.mono (by omega)).trans (hb68.mono (by omega))))
  have hcl : ∀ g, (Value.slice ca l.length ck).ownBlock = some g → w2.heap.size ≤ g ∧ g < w3.heap.size := fun g h => hco3.lt g h
  go_loopw [7] (fun i wr => ∃ (k : Nat) (xs : List Nat), k ≤ l.length ∧ i = .int .i64 k ∧ xs.length = l.length ∧ Bytes xs ∧ wr.ownsRow w2.heap.size 5 1 (.slice ca l.length ck) l.length (bv xs) ∧ Row wr g5 55 #[.bool u, .int .i64 s, .int .u64 (e : Int), .int .u64 (c : Int), .slice ca l.length ck] ∧ Row wr g7 55 #[.bool u, .int .i64 s, .int .u64 (e : Int), .int .u64 (c : Int), .slice da l.length dk] ∧ wr.ownsRow w5.heap.size 5 1 (.slice da l.length dk) l.length (bv l) ∧ Below w2.heap.size w2 wr) (fun i _ => l.length - (intOf i).toNat)
  case atStart => exact ⟨0, l, by omega, rfl, rfl, hlb, hco8, hr58, hr78, hdo8, hb28⟩
  case round =>
    obtain ⟨k, xs, hk, rfl, hxl, hxb, hcr, hr5r, hr7r, hdr, hbr⟩ := hrel
    clear hco8 hr58 hr78 hdo8 hb28 hco6 hco5 hco3 hr56 hr55 hr5 hr7 hdo6
    by_cases hlt : k < l.length
    · obtain ⟨gc, cc, hcv⟩ := own_slice hcr (by omega)
      have hgc := hcl gc (by rw [hcv]; rfl)
      injection hcv with q1 q2 q3
      subst q1
      obtain ⟨x, hx⟩ : ∃ x, x = xs.getD k 0 := ⟨_, rfl⟩
      have hx8 : x < 256 := by rw [hx]; exact hxb.get k
      have hcell : wr.cell? ⟨gc, k, none⟩ = some (.int .u8 (x : Int)) := own_cell hcr (by rw [bv_get _ _ (by omega), ← hx])
      have hfz : wr.frozen? ⟨gc, k, none⟩ = false := own_frozen hcr k
      obtain ⟨c0, c1, c2, c3, c4⟩ := row5 hr5r
      have hxe : bits .xor .u8 (x : Int) 255 = ((x ^^^ 255 : Nat) : Int) := u8_xor_nat x 255 hx8 (by omega)
      obtain ⟨y, hy⟩ : ∃ y, y = x ^^^ 255 := ⟨_, rfl⟩
      rw [← hy] at hxe
      have hy8 : y < 256 := by rw [hy]; exact Nat.xor_lt_two_pow (n := 8) hx8 (by omega)
      have hset := own_set hcr k hlt (.int .u8 (y : Int))
      have hbs : (bv xs).set k (.int .u8 (y : Int)) = bv (xs.set k y) := by simp [bv, List.map_set]
      rw [hbs] at hset
      have hl1 : (k : Int) < (l.length : Int) := by omega
      have hnn : l.length ≤ 1000 := HN.out
      have h5o := hr5r.other (p := ⟨gc, k, none⟩) (show g5 ≠ gc by omega) (.int .u8 (y : Int))
      have h7o := hr7r.other (p := ⟨gc, k, none⟩) (show g7 ≠ gc by omega) (.int .u8 (y : Int))
      have hdo := own_setCell hdr (k := gc) (i := k) (show gc < w5.heap.size by omega) (.int .u8 (y : Int))
      have hbo := hbr.setCell (p := ⟨gc, k, none⟩) (by exact hgc.1) (.int .u8 (y : Int))
      have hxb2 : Bytes (xs.set k y) := fun v hv => by
        rcases List.mem_or_eq_of_mem_set hv with h | h
        · exact hxb v h
        · rw [h]; exact hy8
      clear hx hy hbs hcr hr5r hr7r hdr
      go_wp2_with fail
      go_roundw
      case rel => exact ⟨k + 1, xs.set k y, by omega, by go_num, by rw [List.length_set]; exact hxl, hxb2, hset, h5o, h7o, hdo, hbo⟩
      case measure => simp [intOf]; omega
    · have hs0 := (hs2.mono hbr).up hbr.size
      have hr10 := hr12.next hbr
      have hd0 := RdB.of_own hdr
      have hz0 := (RdB.of_own hzo2).next hbr
      obtain ⟨K0, K1, K2, K3, K4⟩ := row5_at hr10
      obtain ⟨M0, M1, M2, M3, M4⟩ := row5_at hr7r
      obtain ⟨c0, c1, c2, c3, c4⟩ := row5 hr5r
      go_upto_region 10 with fail
      clear c0 c1 c2 c3 c4
      go_region_held3 (fun w' => Below wr.heap.size wr.drew w')
        (first | (with_reducible exact Below.refl _ _) | (with_reducible exact hSa) | (with_reducible exact hSb) | (with_reducible exact hSc) | (with_reducible exact hSd) | fail)
        (first
          | (go_at_call 64; (with_reducible refine (CR.out _ _ _ (hs0.next (Below.drewn (by assumption)))).mono ?_); rintro x wa ⟨rfl, hba⟩; have hSa := below_call (w := wr) hba (by assumption))
          | (go_at_call 52; (with_reducible refine (CO.out _ _ _).mono ?_); rintro x wb ⟨rfl, hbb⟩; have hSb := below_call (w := wr) hbb (by assumption))
          | (go_at_call 65; (with_reducible refine (CQ.out _ _ _ (hs0.next (Below.drewn (by assumption)))).mono ?_); rintro x wc ⟨rfl, hbc⟩; have hSc := below_call (w := wr) hbc (by assumption))
          | (go_at_call 60; (with_reducible refine (CS.out _ _ _ _ _ (hd0.next (Below.drewn (by assumption))) (hs0.next (Below.drewn (by assumption)))).mono ?_); rintro x wd ⟨rfl, hbd⟩; have hSd := below_call (w := wr) hbd (by assumption))
          | fail)
      all_goals
        have hH := Below.drewn ‹Below _ wr.drew _›
        have hsH := hs0.next hH
        have hrH := hr10.next hH
        have hbH : Below w.heap.size w _ := hb1.trans ((hb2.mono s1).trans ((hbr.mono (Nat.le_trans s1 s2)).trans (hH.mono (Nat.le_trans s1 (Nat.le_trans s2 hbr.size)))))
        have hzH := hz0.next hH
        have sH := hbH.size
        clear K0 K1 K2 K3 K4 M0 M1 M2 M3 M4
        obtain ⟨c0, c1, c2, c3, c4⟩ := row5 hrH
        go_wp2_with (first
          | (go_at_call 52; (with_reducible refine (CO.out _ _ _).mono ?_); rintro x we ⟨rfl, hbe⟩; have hse := hsH.next hbe; have hre := hrH.next hbe; have hze := hzH.next hbe)
          | (go_at_call 65; (with_reducible refine (CQ.out _ _ _ hse).mono ?_); rintro x wf ⟨rfl, hbf⟩; have hsf := hse.next hbf; have hrf := hre.next hbf; have hzf := hze.next hbf)
          | (go_at_call 59; (with_reducible refine (CD.out _ _ hzf).mono ?_); rintro x wg ⟨ra, rk, rfl, hrd, hbg⟩; have hsg := hsf.next hbg; have hrg := hrf.next hbg; have hzg := hzf.next hbg; unfold slotV)
          | (apply wpList_allocR (w := wg) (.agg #[.bool false, .int .i64 0, .int .u64 0, .int .u64 0, .slice none 0 0]) 5; kernel_rfl; rfl; rfl; intro g9 wh hg9 hg9' hr9 hbh)
          | (apply wpList_storeRow hr9 #[.bool u, .int .i64 s, .int .u64 (e : Int), .int .u64 (c : Int), .slice ra l.length rk]; rfl; rfl; rfl; rfl; kernel_rfl; rfl; (simp [Value.oneCell']); intro wi hwi hr9i hszi; have hbgi : Below wg.heap.size wg wi := hbh.trans (by rw [hwi]; exact below_row _ hg9); have hsi := hsg.next hbgi; have hri := hrg.next hbgi; have hzi := hzg.next hbgi; have hrdi := hrd.next hbgi; clear hwi hszi)
          | fail)
        obtain ⟨K0, K1, K2, K3, K4⟩ := row5_at hri
        obtain ⟨M0, M1, M2, M3, M4⟩ := row5_at hr9i
        clear c0 c1 c2 c3 c4
        go_region_held3 (fun w' => Below wi.heap.size wi.drew w')
          (first | (with_reducible exact Below.refl _ _) | (with_reducible exact hS1) | (with_reducible exact hS2) | (with_reducible exact hS3) | (with_reducible exact hS4) | (with_reducible exact hS5) | fail)
          (first
            | (go_at_call 52; (with_reducible refine (CO.out _ _ _).mono ?_); rintro x wj ⟨rfl, hbj⟩; have hS1 := below_call (w := wi) hbj (by assumption))
            | (go_at_call 66; (with_reducible refine (CZ.out _ _ _ (hsi.next (Below.drewn (by assumption)))).mono ?_); rintro x wk ⟨vq, rfl, hqo, hbk⟩; have hS2 := below_call (w := wi) hbk (by assumption))
            | (go_at_call 43; (with_reducible refine (QL.out _ _ _ (hzi.next (Below.drewn (by assumption))) (by first | (with_reducible exact RdB.of_own hqo) | (with_reducible exact (RdB.of_own hqo).next hbj))).mono ?_); rintro x wl ⟨rfl, hbl⟩; have hS3 := below_call (w := wi) hbl (by assumption))
            | (go_at_call 60; (with_reducible refine (CS.out _ _ _ _ _ (hrdi.next (Below.drewn (by assumption))) (hsi.next (Below.drewn (by assumption)))).mono ?_); rintro x wm ⟨rfl, hbm⟩; have hS4 := below_call (w := wi) hbm (by assumption))
            | (go_at_call 53; refine (awake17 _).mono ?_; rintro x wn ⟨rfl, hbn⟩; have hS5 := below_call (w := wi) hbn (by assumption))
            | fail)
        all_goals
          have hI := Below.drewn ‹Below _ wi.drew _›
          go_wp2_with fail
          go_ret
          have se := hbe.size
          have sf := hbf.size
          have sg := hbg.size
          have si := hbgi.size
          exact RetB.mk rfl (hbH.trans ((hbe.mono sH).trans ((hbf.mono (by omega)).trans ((hbg.mono (by omega)).trans ((hbgi.mono (by omega)).trans (hI.mono (by omega)))))))
theorem slotBytes_walk (u : Bool) (s : Int) (e c : Nat) (av : Option Addr) (kk : Nat) (l : List Nat) (w : World) (hlb : Bytes l) (he : e < 18446744073709551616) (hc : c < 18446744073709551616) (hr : RdB w.heap.size w (.slice av l.length kk) l) : Calls Try.prog 16 #[slotV u s e c (.slice av l.length kk)] w (RetB (.bool true) w) := by
  by_cases hn : l.length ≤ 1000
  · cases hok : slotOk u s e c l.length with
    | false => exact sbl_bad u s e c av kk l w hlb hr hn hok
    | true =>
      have hzl := slotB_length hok
      have hzb : Bytes (slotB u s e c l) := slotB_bytes hlb
      cases u with
      | false =>
        obtain ⟨h1, h2, h3, h4⟩ := slotOk_false.1 hok
        have h5 : l = [] := List.length_eq_zero_iff.1 h4
        subst h1 h2 h3 h5
        refine sbl_good false 0 0 0 av kk [] w hlb hr hn hok (slotB false 0 0 0 []) (by omega) (fun v w h => sbytes_none 0 0 0 v [] w h hok) (fun v w h => rbytes_none 0 0 0 v [] w) (fun v w h => ?_)
        exact (sread_zero v _ w hzb h hzl rfl).mono fun e w' he => retSr_of he
      | true =>
        obtain ⟨h1, h2, h3⟩ := slotOk_true.1 hok
        obtain ⟨p1, p2, p3, p4, p5⟩ := slotB_parts (s := s) (e := e) (c := c) (l := l) (by omega) (by omega) he hc
        refine sbl_good true s e c av kk l w hlb hr hn hok (slotB true s e c l) (by omega) (fun v w h => sbytes_yes s e c v l w he hc h hok) (fun v w h => rbytes_yes s e c v l w he hc h hok) (fun v w h => ?_)
        have hs : ((s.toNat : Nat) : Int) = s := by omega
        have hnz : slotB true s e c l ≠ List.replicate 128 0 := fun h => by
          rw [h] at p1
          exact absurd p1 (by decide)
        have h2 := sread_calls v (slotB true s e c l) w hzb h hzl hnz true (by rw [p1, p2, p3, p4, hs, ← h3, hok]; rfl)
        rw [p2, p3, p4, p5, hs] at h2
        exact h2
  · exact sbl_long u s e c av kk l w hlb hr (by simp; omega)
end Go.Proofs.Ytfinekmegiengaa
