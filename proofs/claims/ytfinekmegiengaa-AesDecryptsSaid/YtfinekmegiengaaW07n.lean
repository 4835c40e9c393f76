/- The walks of the references of layer 7: encrypting, decrypting. -/
import Derived.Test.YtfinekmegiengaaW07m
import Derived.Test.YtfinekmegiengaaPlainI
namespace Go.Proofs.Ytfinekmegiengaa
open Go.RowKit Nep
set_option maxRecDepth 100000
set_option linter.unusedVariables false
set_option linter.unusedSimpArgs false
set_option maxHeartbeats 1000000

theorem rkL_length (key : List Nat) (hk : key.length = 32) (hb : Bytes key) (r : Nat) (hr : r < 15) : (rkL (expL key 60) r).length = 16 := by
  rw [rkL_flat key hk hb r, List.length_take, List.length_drop, flatL_length key hk hb]; omega
theorem rkL_bytes (key : List Nat) (hk : key.length = 32) (hb : Bytes key) (r : Nat) : Bytes (rkL (expL key 60) r) := by
  rw [rkL_flat key hk hb r]
  exact (Bytes.drop (flatL_bytes key hk hb) _).take _
theorem encR_blk (key b : List Nat) (hk : key.length = 32) (hkb : Bytes key) (hb : b.length = 16) (hbb : Bytes b) (r : Nat) (h : r < 15) : (encR (expL key 60) b r).length = 16 ∧ Bytes (encR (expL key 60) b r) := by
  rw [← encF_eq key b hk hkb r]
  exact encF_blk _ b (flatL_length key hk hkb) (flatL_bytes key hk hkb) hb hbb r h
theorem decR_blk (key b : List Nat) (hk : key.length = 32) (hkb : Bytes key) (hb : b.length = 16) (hbb : Bytes b) (r : Nat) : (decR (expL key 60) b r).length = 16 ∧ Bytes (decR (expL key 60) b r) := by
  rw [← decF_eq key b hk hkb r]
  exact decF_blk _ b hb hbb r

theorem renc_calls (v1 v2 v3 : Value) (key l t : List Nat) (w : World) (hkb : Bytes key) (hr1 : RdB w.heap.size w v1 key) (h32 : key.length = 32) (hlb : Bytes l) (hr2 : RdB w.heap.size w v2 l) (h16 : l.length = 16)
    (hr3 : RdB w.heap.size w v3 t) (ht : t = sboxL) : Calls Try.prog 44 #[v1, v2, v3] w (RetS (encL key l) w) := by
  have htl : t.length = 256 := by rw [ht]; decide +kernel
  have htb : Bytes t := fun x hx => by
    obtain ⟨i, hi, rfl⟩ := List.getElem_of_mem hx
    have : t[i] = t.getD i 0 := by simp [List.getElem?_eq_getElem hi]
    rw [this, ht]; exact sb_lt i
  have htm : ∀ x : List Nat, (x.map fun y => t.getD y 0) = x.map sb := fun x => by rw [ht]; rfl
  obtain ⟨W, hW⟩ : ∃ W, W = expL key 60 := ⟨_, rfl⟩
  have hW4 : ∀ x ∈ W, x.length = 4 := fun x hx => by rw [hW] at hx; exact exp4 key h32 hkb x hx
  have hWl : W.length = 60 := by rw [hW, expL_length]
  have hkl : ∀ r, r < 15 → (rkL W r).length = 16 ∧ Bytes (rkL W r) := fun r hr => by rw [hW]; exact ⟨rkL_length key h32 hkb r hr, rkL_bytes key h32 hkb r⟩
  have hel : ∀ r, r < 15 → (encR W l r).length = 16 ∧ Bytes (encR W l r) := fun r hr => by rw [hW]; exact encR_blk key l h32 hkb h16 hlb r hr
  have CE : RowKit.Hid (∀ w, RdB w.heap.size w v1 key → RdB w.heap.size w v3 t → Calls Try.prog 39 #[v1, v3] w (RetL W w)) := Lib.hid (fun w ha hc => hW ▸ rexpand_calls v1 v3 key t w hkb ha h32 hc ht)
  have CR : RowKit.Hid (∀ (n : Nat) (N : Int), N = n → n < 15 → ∀ v w, RdL w.heap.size w v W → Calls Try.prog 114 #[v, .int .i64 N] w (RetS (rkL W n) w)) := Lib.hid (fun n N hN hn v w h => rround_calls v W n hN w hW4 h (by omega) (by omega))
  have CX : RowKit.Hid (∀ a b : List Nat, a.length = 16 → b.length = 16 → Bytes a → Bytes b → ∀ va vb w, RdB w.heap.size w va a → RdB w.heap.size w vb b → Calls Try.prog 105 #[va, vb] w (RetS (xorL a b) w)) := Lib.hid (fun a b h1 h2 h3 h4 va vb w ha hc => rxor_calls va vb a b w h3 h4 ha hc (by omega) (by omega))
  have CP : RowKit.Hid (∀ a : List Nat, a.length = 16 → Bytes a → ∀ va w, RdB w.heap.size w va a → RdB w.heap.size w v3 t → Calls Try.prog 115 #[va, v3] w (RetS (a.map sb) w)) := Lib.hid (fun a h1 h2 va w ha hc => htm a ▸ rput_calls va v3 a t w h2 htb ha hc (by omega) htl)
  have CS : RowKit.Hid (∀ a : List Nat, a.length = 16 → Bytes a → ∀ va w, RdB w.heap.size w va a → Calls Try.prog 47 #[va, .int .i64 1] w (RetS (shL a 1) w)) := Lib.hid (fun a h1 h2 va w ha => rshift_calls va a 1 rfl (.inl rfl) w h2 ha h1)
  have CM : RowKit.Hid (∀ a : List Nat, a.length = 16 → Bytes a → ∀ va w, RdB w.heap.size w va a → Calls Try.prog 116 #[va, .agg #[.int .u8 2, .int .u8 3, .int .u8 1, .int .u8 1]] w (RetS (mixL [2, 3, 1, 1] a) w)) := Lib.hid (fun a h1 h2 va w ha => rmixed_calls va a 2 3 1 1 w (by simp [Bytes]) h2 ha h1)
  have HKL := Lib.hid hkl
  have HEL := Lib.hid hel
  have HW := Lib.hid hW
  have H16 := Lib.hid h16
  have h0 : encR W l 0 = xorL l (rkL W 0) := rfl
  have H0 := Lib.hid h0
  have hr30 := hr3
  clear htl htb htm hW4 hWl hkl hel ht hW h16 h0
  go_enter Try.func44, Try.ntmps44
  go_wp2_with (first
    | (go_at_call 39; refine (CE.out _ hr1 hr3).mono ?_; rintro e w1 ⟨vw, rfl, hW1, hb1⟩)
    | (go_at_call 114; refine (CR.out 0 _ rfl (by omega) _ _ hW1.rd).mono ?_; rintro e w2 ⟨vk, rfl, hk2, hb2⟩)
    | (go_at_call 105; refine (CX.out l (rkL W 0) H16.out (HKL.out 0 (by omega)).1 hlb (HKL.out 0 (by omega)).2 _ _ _ ((hr2.next hb1).next hb2) (RdB.of_own hk2)).mono ?_; rintro e w3 ⟨vb, rfl, ho3, hb3⟩))
  have s1 := hb1.size
  have s2 := hb2.size
  have hbb := hb1.trans ((hb2.mono s1).trans (hb3.mono (by omega)))
  have hW3 := (hW1.next hb2).next hb3
  have ho3' := own_base ho3 (show w.heap.size ≤ w2.heap.size by omega)
  rw [← H0.out] at ho3'
  clear hr1 hr2 hr3 hk2 hb1 hb2 hb3 s1 s2 hW1 ho3
  go_loopw [8, 9] (fun s i wr => ∃ n : Nat, n ≤ 14 ∧ i = .int .i64 ((n + 1 : Nat) : Int) ∧ wr.ownsRow w.heap.size 5 1 s (encR W l n).length (bv (encR W l n)) ∧ OwnL w.heap.size wr vw W ∧ Below w.heap.size w wr) (fun _ i _ => 15 - (intOf i).toNat)
  case atStart => exact ⟨0, by omega, rfl, ho3', OwnL.base hW3 (Nat.le_refl _), hbb⟩
  case round =>
    obtain ⟨n, hn, rfl, ho, hWk, hbk⟩ := hrel
    clear ho3' hW3 hbb
    have hbs := hbk.size
    have hrt := (hr30.mono hbk).up hbs
    by_cases hlt : n < 14
    · have hx := HEL.out n (by omega)
      obtain ⟨x, hxe⟩ : ∃ x, x = encR W l n := ⟨_, rfl⟩
      have hstep : encR W l (n + 1) = xorL (if n + 1 < 14 then mixL [2, 3, 1, 1] (shL (x.map sb) 1) else shL (x.map sb) 1) (rkL W (n + 1)) := by rw [hxe]; rfl
      rw [← hxe] at hx ho
      have hx1 : (x.map sb).length = 16 := by rw [List.length_map]; exact hx.1
      have hx1b : Bytes (x.map sb) := map_sb_bytes x
      obtain ⟨x1, hx1e⟩ : ∃ x1, x1 = x.map sb := ⟨_, rfl⟩
      have CP' := fun va w h1 h2 => hx1e ▸ CP.out x hx.1 hx.2 va w h1 h2
      rw [← hx1e] at hx1 hx1b hstep
      obtain ⟨x2, hx2e⟩ : ∃ x2, x2 = shL x1 1 := ⟨_, rfl⟩
      have hx2 : x2.length = 16 := by rw [hx2e, shL_length]
      have hx2b : Bytes x2 := by rw [hx2e]; exact shL_bytes _ hx1b _
      have CS' := fun va w h1 => hx2e ▸ CS.out x1 hx1 hx1b va w h1
      rw [← hx2e] at hstep
      obtain ⟨m, hm⟩ : ∃ m, m = n + 1 := ⟨_, rfl⟩
      rw [← hm] at hstep ⊢
      have hm15 : m < 15 := by omega
      have hk := HKL.out m hm15
      have HCP := Lib.hid CP'
      have HCS := Lib.hid CS'
      by_cases h14 : m < 14
      · rw [if_pos h14] at hstep
        obtain ⟨x3, hx3e⟩ : ∃ x3, x3 = mixL [2, 3, 1, 1] x2 := ⟨_, rfl⟩
        have hx3 : x3.length = 16 := by rw [hx3e]; exact mixL_length _ _
        have hx3b : Bytes x3 := by rw [hx3e]; exact mixL_bytes _ _
        have CM' := fun va w h1 => hx3e ▸ CM.out x2 hx2 hx2b va w h1
        rw [← hx3e] at hstep
        have HS := Lib.hid hstep
        have HCM := Lib.hid CM'
        clear hstep CP' CS' CM' hxe hx1e hx2e hx3e hm
        go_wp2_with (first
          | (go_at_call 115; refine (HCP.out _ _ (RdB.of_own ho) hrt).mono ?_; rintro e w1 ⟨u1, rfl, ho1, hb1⟩)
          | (go_at_call 47; refine (HCS.out _ _ (RdB.of_own ho1)).mono ?_; rintro e w2 ⟨u2, rfl, ho2, hb2⟩)
          | (go_at_call 116; refine (HCM.out _ _ (RdB.of_own ho2)).mono ?_; rintro e w3 ⟨u3, rfl, ho3, hb3⟩; have hW3 := ((hWk.next hb1).next hb2).next hb3)
          | (go_at_call 114; refine (CR.out m _ rfl hm15 _ _ hW3.rd).mono ?_; rintro e w4 ⟨u4, rfl, ho4, hb4⟩)
          | (go_at_call 105; refine (CX.out x3 (rkL W m) hx3 hk.1 hx3b hk.2 _ _ _ ((RdB.of_own ho3).next hb4) (RdB.of_own ho4)).mono ?_; rintro e w5 ⟨u5, rfl, ho5, hb5⟩))
        have s1 := hb1.size
        have s2 := hb2.size
        have s3 := hb3.size
        have s4 := hb4.size
        go_roundw
        case rel => exact ⟨m, by omega, by go_num, by rw [HS.out]; exact own_base ho5 (by omega), (hW3.next hb4).next hb5, (hbk.trans (hb1.mono hbs)).trans ((hb2.mono (by omega)).trans ((hb3.mono (by omega)).trans ((hb4.mono (by omega)).trans (hb5.mono (by omega)))))⟩
        case measure => simp [intOf]; omega
      · rw [if_neg h14] at hstep
        have HS := Lib.hid hstep
        clear hstep CP' CS' hxe hx1e hx2e hm
        go_wp2_with (first
          | (go_at_call 115; refine (HCP.out _ _ (RdB.of_own ho) hrt).mono ?_; rintro e w1 ⟨u1, rfl, ho1, hb1⟩)
          | (go_at_call 47; refine (HCS.out _ _ (RdB.of_own ho1)).mono ?_; rintro e w3 ⟨u3, rfl, ho3, hb3⟩; have hW3 := (hWk.next hb1).next hb3)
          | (go_at_call 114; refine (CR.out m _ rfl hm15 _ _ hW3.rd).mono ?_; rintro e w4 ⟨u4, rfl, ho4, hb4⟩)
          | (go_at_call 105; refine (CX.out x2 (rkL W m) hx2 hk.1 hx2b hk.2 _ _ _ ((RdB.of_own ho3).next hb4) (RdB.of_own ho4)).mono ?_; rintro e w5 ⟨u5, rfl, ho5, hb5⟩))
        have s1 := hb1.size
        have s3 := hb3.size
        have s4 := hb4.size
        go_roundw
        case rel => exact ⟨m, by omega, by go_num, by rw [HS.out]; exact own_base ho5 (by omega), (hW3.next hb4).next hb5, (hbk.trans (hb1.mono hbs)).trans ((hb3.mono (by omega)).trans ((hb4.mono (by omega)).trans (hb5.mono (by omega))))⟩
        case measure => simp [intOf]; omega
    · obtain rfl : n = 14 := by omega
      go_wp2_with fail
      go_ret
      refine ⟨_, rfl, ?_, hbk⟩
      unfold encL
      rw [← HW.out]
      exact ho
end Go.Proofs.Ytfinekmegiengaa
