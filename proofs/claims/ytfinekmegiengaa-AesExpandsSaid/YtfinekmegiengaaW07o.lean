/- The walk of the reference of layer 7: decrypting. -/
import Derived.Test.YtfinekmegiengaaW07n
namespace Go.Proofs.Ytfinekmegiengaa
open Go.RowKit Nep
set_option maxRecDepth 100000
set_option linter.unusedVariables false
set_option linter.unusedSimpArgs false
set_option maxHeartbeats 1000000

theorem sbox_bytes {t : List Nat} (ht : t = sboxL) : Bytes t := fun x hx => by
  obtain ⟨i, hi, rfl⟩ := List.getElem_of_mem hx
  have : t[i] = t.getD i 0 := by simp [List.getElem?_eq_getElem hi]
  rw [this, ht]; exact sb_lt i
theorem back_bytes {t : List Nat} (ht : t = backL) : Bytes t := fun x hx => by
  obtain ⟨i, hi, rfl⟩ := List.getElem_of_mem hx
  have : t[i] = t.getD i 0 := by simp [List.getElem?_eq_getElem hi]
  rw [this, ht]; exact bk_lt i

theorem rdec_calls (v1 v2 v3 : Value) (key l t : List Nat) (w : World) (hkb : Bytes key) (hr1 : RdB w.heap.size w v1 key) (h32 : key.length = 32) (hlb : Bytes l) (hr2 : RdB w.heap.size w v2 l) (h16 : l.length = 16)
    (hr3 : RdB w.heap.size w v3 t) (ht : t = sboxL) : Calls Try.prog 49 #[v1, v2, v3] w (RetS (decL key l) w) := by
  have htl : t.length = 256 := by rw [ht]; decide +kernel
  have htb : Bytes t := sbox_bytes ht
  obtain ⟨bt, hbt⟩ : ∃ bt, bt = backL := ⟨_, rfl⟩
  have hbl : bt.length = 256 := by rw [hbt]; decide +kernel
  have hbb : Bytes bt := back_bytes hbt
  have hrev : revT t 256 = bt := by rw [ht, hbt]; exact revT_all
  have htm : ∀ x : List Nat, (x.map fun y => bt.getD y 0) = x.map bk := fun x => by rw [hbt]; rfl
  obtain ⟨W, hW⟩ : ∃ W, W = expL key 60 := ⟨_, rfl⟩
  have hW4 : ∀ x ∈ W, x.length = 4 := fun x hx => by rw [hW] at hx; exact exp4 key h32 hkb x hx
  have hWl : W.length = 60 := by rw [hW, expL_length]
  have hkl : ∀ r, r < 15 → (rkL W r).length = 16 ∧ Bytes (rkL W r) := fun r hr => by rw [hW]; exact ⟨rkL_length key h32 hkb r hr, rkL_bytes key h32 hkb r⟩
  have hel : ∀ r, (decR W l r).length = 16 ∧ Bytes (decR W l r) := fun r => by rw [hW]; exact decR_blk key l h32 hkb h16 hlb r
  have CE : RowKit.Hid (∀ w, RdB w.heap.size w v1 key → RdB w.heap.size w v3 t → Calls Try.prog 39 #[v1, v3] w (RetL W w)) := Lib.hid (fun w ha hc => hW ▸ rexpand_calls v1 v3 key t w hkb ha h32 hc ht)
  have CT : RowKit.Hid (∀ w, RdB w.heap.size w v3 t → Calls Try.prog 119 #[v3] w (RetS bt w)) := Lib.hid (fun w hc => hrev ▸ rturn_calls v3 t w htb hc htl)
  have CR : RowKit.Hid (∀ (n : Nat) (N : Int), N = n → n < 15 → ∀ v w, RdL w.heap.size w v W → Calls Try.prog 114 #[v, .int .i64 N] w (RetS (rkL W n) w)) := Lib.hid (fun n N hN hn v w h => rround_calls v W n hN w hW4 h (by omega) (by omega))
  have CX : RowKit.Hid (∀ a b : List Nat, a.length = 16 → b.length = 16 → Bytes a → Bytes b → ∀ va vb w, RdB w.heap.size w va a → RdB w.heap.size w vb b → Calls Try.prog 105 #[va, vb] w (RetS (xorL a b) w)) := Lib.hid (fun a b h1 h2 h3 h4 va vb w ha hc => rxor_calls va vb a b w h3 h4 ha hc (by omega) (by omega))
  have CP : RowKit.Hid (∀ a : List Nat, a.length = 16 → Bytes a → ∀ va vt w, RdB w.heap.size w va a → RdB w.heap.size w vt bt → Calls Try.prog 115 #[va, vt] w (RetS (a.map bk) w)) := Lib.hid (fun a h1 h2 va vt w ha hc => htm a ▸ rput_calls va vt a bt w h2 hbb ha hc (by omega) hbl)
  have CS : RowKit.Hid (∀ a : List Nat, a.length = 16 → Bytes a → ∀ va w, RdB w.heap.size w va a → Calls Try.prog 47 #[va, .int .i64 3] w (RetS (shL a 3) w)) := Lib.hid (fun a h1 h2 va w ha => rshift_calls va a 3 rfl (.inr rfl) w h2 ha h1)
  have CM : RowKit.Hid (∀ a : List Nat, a.length = 16 → Bytes a → ∀ va w, RdB w.heap.size w va a → Calls Try.prog 116 #[va, .agg #[.int .u8 14, .int .u8 11, .int .u8 13, .int .u8 9]] w (RetS (mixL [14, 11, 13, 9] a) w)) := Lib.hid (fun a h1 h2 va w ha => rmixed_calls va a 14 11 13 9 w (by simp [Bytes]) h2 ha h1)
  have HKL := Lib.hid hkl
  have HEL := Lib.hid hel
  have HW := Lib.hid hW
  have H16 := Lib.hid h16
  clear htl htb htm hW4 hWl hkl hel ht hW h16 hbt hbl hbb hrev
  go_enter Try.func49, Try.ntmps49
  go_wp2_with (first
    | (go_at_call 39; refine (CE.out _ hr1 hr3).mono ?_; rintro e w1 ⟨vw, rfl, hW1, hb1⟩)
    | (go_at_call 119; refine (CT.out _ (hr3.next hb1)).mono ?_; rintro e w2 ⟨vt, rfl, ht2, hb2⟩))
  have s1 := hb1.size
  have hbb := hb1.trans (hb2.mono s1)
  have hW3 := hW1.next hb2
  have ht3 := RdB.of_own ht2
  have hl3 := (hr2.next hb1).next hb2
  clear hr1 hr2 hr3 hb1 hb2 s1 hW1 ht2
  go_loopw [9, 10] (fun s i wr => ∃ j : Nat, j ≤ 14 ∧ i = .int .i64 ((14 - j : Nat) : Int) ∧ RdB wr.heap.size wr s (decR W l j) ∧ RdB wr.heap.size wr vt bt ∧ OwnL w.heap.size wr vw W ∧ Below w.heap.size w wr) (fun _ i _ => (intOf i).toNat)
  case atStart => exact ⟨0, by omega, rfl, hl3, ht3, OwnL.base hW3 (Nat.le_refl _), hbb⟩
  case round =>
    obtain ⟨j, hj, hn, hx0, htk, hWk, hbk⟩ := hrel
    clear hl3 hW3 hbb ht3
    have hbs := hbk.size
    obtain ⟨n, hne⟩ : ∃ n, n = 14 - j := ⟨_, rfl⟩
    rw [← hne] at hn
    subst hn
    have hx := HEL.out j
    have hstep : decR W l (j + 1) = (shL (if 0 < j then mixL [14, 11, 13, 9] (xorL (decR W l j) (rkL W (14 - j))) else xorL (decR W l j) (rkL W (14 - j))) 3).map bk := rfl
    obtain ⟨x, hxe⟩ : ∃ x, x = decR W l j := ⟨_, rfl⟩
    rw [← hxe] at hx hx0 hstep
    have hn15 : n < 15 := by omega
    have hk := HKL.out n hn15
    by_cases hlt : j < 14
    · have hn1 : 1 ≤ n := by omega
      rw [← hne] at hstep
      obtain ⟨x1, hx1e⟩ : ∃ x1, x1 = xorL x (rkL W n) := ⟨_, rfl⟩
      have hx1 : x1.length = 16 := by rw [hx1e, xorL_length _ _ (by rw [hx.1, hk.1]), hx.1]
      have hx1b : Bytes x1 := by rw [hx1e]; exact xorL_bytes hx.2 hk.2
      have CX' := fun va vb w h1 h2 => hx1e ▸ CX.out x (rkL W n) hx.1 hk.1 hx.2 hk.2 va vb w h1 h2
      rw [← hx1e] at hstep
      have HCX := Lib.hid CX'
      by_cases h14 : n < 14
      · rw [if_pos (by omega)] at hstep
        obtain ⟨x2, hx2e⟩ : ∃ x2, x2 = mixL [14, 11, 13, 9] x1 := ⟨_, rfl⟩
        have hx2 : x2.length = 16 := by rw [hx2e]; exact mixL_length _ _
        have hx2b : Bytes x2 := by rw [hx2e]; exact mixL_bytes _ _
        have CM' := fun va w h1 => hx2e ▸ CM.out x1 hx1 hx1b va w h1
        rw [← hx2e] at hstep
        obtain ⟨x3, hx3e⟩ : ∃ x3, x3 = shL x2 3 := ⟨_, rfl⟩
        have hx3 : x3.length = 16 := by rw [hx3e, shL_length]
        have hx3b : Bytes x3 := by rw [hx3e]; exact shL_bytes _ hx2b _
        have CS' := fun va w h1 => hx3e ▸ CS.out x2 hx2 hx2b va w h1
        rw [← hx3e] at hstep
        have HS := Lib.hid hstep
        have HCM := Lib.hid CM'
        have HCS := Lib.hid CS'
        have HN := Lib.hid hne
        clear hstep CX' CS' CM' hxe hx1e hx2e hx3e hne
        go_wp2_with (first
          | (go_at_call 114; refine (CR.out n _ rfl hn15 _ _ hWk.rd).mono ?_; rintro e w1 ⟨u1, rfl, ho1, hb1⟩)
          | (go_at_call 105; refine (HCX.out _ _ _ (hx0.next hb1) (RdB.of_own ho1)).mono ?_; rintro e w2 ⟨u2, rfl, ho2, hb2⟩)
          | (go_at_call 116; refine (HCM.out _ _ (RdB.of_own ho2)).mono ?_; rintro e w3 ⟨u3, rfl, ho3, hb3⟩)
          | (go_at_call 47; refine (HCS.out _ _ (RdB.of_own ho3)).mono ?_; rintro e w4 ⟨u4, rfl, ho4, hb4⟩; have ht4 := (((htk.next hb1).next hb2).next hb3).next hb4)
          | (go_at_call 115; refine (CP.out x3 hx3 hx3b _ _ _ (RdB.of_own ho4) ht4).mono ?_; rintro e w5 ⟨u5, rfl, ho5, hb5⟩))
        have s1 := hb1.size
        have s2 := hb2.size
        have s3 := hb3.size
        have s4 := hb4.size
        go_roundw
        case rel => exact ⟨j + 1, by omega, by have := HN.out; go_num, by rw [HS.out]; exact RdB.of_own ho5, ht4.next hb5, ((((hWk.next hb1).next hb2).next hb3).next hb4).next hb5, (hbk.trans (hb1.mono hbs)).trans ((hb2.mono (by omega)).trans ((hb3.mono (by omega)).trans ((hb4.mono (by omega)).trans (hb5.mono (by omega)))))⟩
        case measure => simp [intOf]; omega
      · rw [if_neg (by omega)] at hstep
        obtain ⟨x3, hx3e⟩ : ∃ x3, x3 = shL x1 3 := ⟨_, rfl⟩
        have hx3 : x3.length = 16 := by rw [hx3e, shL_length]
        have hx3b : Bytes x3 := by rw [hx3e]; exact shL_bytes _ hx1b _
        have CS' := fun va w h1 => hx3e ▸ CS.out x1 hx1 hx1b va w h1
        rw [← hx3e] at hstep
        have HS := Lib.hid hstep
        have HCS := Lib.hid CS'
        have HN := Lib.hid hne
        clear hstep CX' CS' hxe hx1e hx3e hne
        go_wp2_with (first
          | (go_at_call 114; refine (CR.out n _ rfl hn15 _ _ hWk.rd).mono ?_; rintro e w1 ⟨u1, rfl, ho1, hb1⟩)
          | (go_at_call 105; refine (HCX.out _ _ _ (hx0.next hb1) (RdB.of_own ho1)).mono ?_; rintro e w2 ⟨u2, rfl, ho2, hb2⟩)
          | (go_at_call 47; refine (HCS.out _ _ (RdB.of_own ho2)).mono ?_; rintro e w4 ⟨u4, rfl, ho4, hb4⟩; have ht4 := ((htk.next hb1).next hb2).next hb4)
          | (go_at_call 115; refine (CP.out x3 hx3 hx3b _ _ _ (RdB.of_own ho4) ht4).mono ?_; rintro e w5 ⟨u5, rfl, ho5, hb5⟩))
        have s1 := hb1.size
        have s2 := hb2.size
        have s4 := hb4.size
        go_roundw
        case rel => exact ⟨j + 1, by omega, by have := HN.out; go_num, by rw [HS.out]; exact RdB.of_own ho5, ht4.next hb5, (((hWk.next hb1).next hb2).next hb4).next hb5, (hbk.trans (hb1.mono hbs)).trans ((hb2.mono (by omega)).trans ((hb4.mono (by omega)).trans (hb5.mono (by omega))))⟩
        case measure => simp [intOf]; omega
    · obtain rfl : n = 0 := by omega
      obtain rfl : j = 14 := by omega
      have hX := hxe
      have HX := Lib.hid hX
      clear hX hxe hstep hne
      go_wp2_with (first
          | (go_at_call 114; refine (CR.out 0 _ rfl hn15 _ _ hWk.rd).mono ?_; rintro e w1 ⟨u1, rfl, ho1, hb1⟩)
          | (go_at_call 105; refine (CX.out x (rkL W 0) hx.1 hk.1 hx.2 hk.2 _ _ _ (hx0.next hb1) (RdB.of_own ho1)).mono ?_; rintro e w2 ⟨u2, rfl, ho2, hb2⟩))
      go_ret
      refine ⟨_, rfl, ?_, hbk.trans ((hb1.mono hbs).trans (hb2.mono (Nat.le_trans hbs hb1.size)))⟩
      unfold decL
      rw [← HW.out, ← HX.out]
      exact own_base ho2 (Nat.le_trans hbs hb1.size)
end Go.Proofs.Ytfinekmegiengaa
