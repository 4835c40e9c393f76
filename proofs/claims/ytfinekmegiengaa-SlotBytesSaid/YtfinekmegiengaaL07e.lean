/- The walks of the laws AesEncrypts, AesDecrypts. -/
import Derived.Test.YtfinekmegiengaaL07
import Derived.Test.YtfinekmegiengaaWC
namespace Go.Proofs.Ytfinekmegiengaa
open Go.RowKit Nep
set_option maxRecDepth 100000
set_option linter.unusedVariables false
set_option linter.unusedSimpArgs false
set_option maxHeartbeats 1000000

theorem encF_len (key l : List Nat) (h32 : key.length = 32) (hkb : Bytes key) (h16 : l.length = 16) (hlb : Bytes l) : (encF (flatL key) l 14).length = 16 ∧ Bytes (encF (flatL key) l 14) :=
  encF_blk _ l (flatL_length key h32 hkb) (flatL_bytes key h32 hkb) h16 hlb 14 (by omega)
theorem decF_len (key l : List Nat) (h32 : key.length = 32) (hkb : Bytes key) (h16 : l.length = 16) (hlb : Bytes l) : (xorL (decF (flatL key) l 14) (rkF (flatL key) 0)).length = 16 ∧ Bytes (xorL (decF (flatL key) l 14) (rkF (flatL key) 0)) := by
  have h := decF_blk (flatL key) l h16 hlb 14
  have h2 := rkF_length (flatL key) (flatL_length key h32 hkb) 0 (by omega)
  exact ⟨by rw [xorL_length _ _ (by rw [h.1, h2])]; exact h.1, xorL_bytes h.2 (rkF_bytes _ (flatL_bytes key h32 hkb) 0)⟩

theorem aesEncrypts_walk (v1 v2 : Value) (key l : List Nat) (w : World) (hkb : Bytes key) (hr1 : RdB w.heap.size w v1 key) (hk : key.length ≤ 140737488351232) (hlb : Bytes l) (hr2 : RdB w.heap.size w v2 l) (hl : l.length ≤ 140737488351232) :
    Calls Try.prog 7 #[v1, v2] w (RetB (.bool true) w) := by
  by_cases h32 : key.length = 32
  · have b32 : ((key.length : Int) != 32) = false := by rw [h32]; rfl
    have CN : RowKit.Hid (∀ w, RdB w.heap.size w v1 key → Calls Try.prog 37 #[v1] w (RetK (flatL key) w)) := Lib.hid (fun w h => new_calls v1 key w hkb h h32)
    by_cases h16 : l.length = 16
    · have b16 : ((l.length : Int) != 16) = false := by rw [h16]; rfl
      obtain ⟨y, hy⟩ : ∃ y, y = encF (flatL key) l 14 := ⟨_, rfl⟩
      have hye : encL key l = y := by rw [hy, encF_eq key l h32 hkb]; rfl
      have hyl := encF_len key l h32 hkb h16 hlb
      rw [← hy] at hyl
      have CE : RowKit.Hid (∀ p w, KeyAt w.heap.size w p (flatL key) → RdB w.heap.size w v2 l → Calls Try.prog 42 #[p, v2] w (RetSE y w)) := Lib.hid (fun p w hp h => hy ▸ encrypt_calls p v2 _ l w hp (flatL_length key h32 hkb) (flatL_bytes key h32 hkb) h hlb h16)
      have CR : RowKit.Hid (∀ vt w, RdB w.heap.size w v1 key → RdB w.heap.size w v2 l → RdB w.heap.size w vt sboxL → Calls Try.prog 44 #[v1, v2, vt] w (RetS y w)) := Lib.hid (fun vt w h1 h2 h3 => hye ▸ renc_calls v1 v2 vt key l sboxL w hkb h1 h32 hlb h2 h16 h3 rfl)
      have CQ : RowKit.Hid (∀ va vb w, RdB w.heap.size w va y → RdB w.heap.size w vb y → Calls Try.prog 43 #[va, vb] w (RetB (.bool true) w)) := Lib.hid (fun va vb w h1 h2 => by
        have h := same_calls va vb y y w h1 h2 (by omega)
        rwa [decide_eq_true rfl] at h)
      clear hy hye
      generalize flatL key = rk at *
      have H16 := Lib.hid h16
      have H32 := Lib.hid h32
      have HYL := Lib.hid hyl
      clear h16 h32 hyl
      go_enter Try.func7, Try.ntmps7
      go_wp2_with (first
        | (go_at_call 37; refine (CN.out _ hr1).mono ?_; rintro e w1 ⟨p, rfl, hk1, hb1⟩; have hr1a := hr1.next hb1; have hr2a := hr2.next hb1)
        | (go_at_call 42; refine (CE.out _ _ hk1 hr2a).mono ?_; rintro e w2 ⟨vx, rfl, hx2, hb2⟩; have hr1b := hr1a.next hb2; have hr2b := hr2a.next hb2)
        | (refine wpList_lenB hr1b rfl rfl rfl ?_) | (refine wpList_lenB hr2b rfl rfl rfl ?_)
        | (go_at_call 40; refine (rtable_calls _).mono ?_; rintro e w3 ⟨vt, rfl, ht3, hb3⟩)
        | (go_at_call 44; refine (CR.out _ _ (hr1b.next hb3) (hr2b.next hb3) (RdB.of_own ht3)).mono ?_; rintro e w4 ⟨v4, rfl, ho4, hb4⟩)
        | (go_at_call 43; refine (CQ.out _ _ _ (((RdB.of_own hx2).next hb3).next hb4) (RdB.of_own ho4)).mono ?_; rintro e w5 ⟨rfl, hb5⟩)
        | (go_at_call 38; refine (awake07 _).mono ?_; rintro e w6 ⟨rfl, hb6⟩))
      go_ret
      have s1 := hb1.size
      have s2 := hb2.size
      have s3 := hb3.size
      have s4 := hb4.size
      have s5 := hb5.size
      exact RetB.mk rfl (hb1.trans ((hb2.mono (by omega)).trans ((hb3.mono (by omega)).trans ((hb4.mono (by omega)).trans ((hb5.mono (by omega)).trans (hb6.mono (by omega)))))))
    · have b16 : ((l.length : Int) != 16) = true := by simp; omega
      have CE : RowKit.Hid (∀ p w, KeyAt w.heap.size w p (flatL key) → RdB w.heap.size w v2 l → Calls Try.prog 42 #[p, v2] w (RetE 2 w)) := Lib.hid (fun p w hp h => encrypt_short _ p v2 _ l w hp h h16)
      generalize flatL key = rk at *
      have H16 := Lib.hid h16
      have H32 := Lib.hid h32
      clear h16 h32
      go_enter Try.func7, Try.ntmps7
      go_wp2_with (first
        | (go_at_call 37; refine (CN.out _ hr1).mono ?_; rintro e w1 ⟨p, rfl, hk1, hb1⟩; have hr1a := hr1.next hb1; have hr2a := hr2.next hb1)
        | (go_at_call 42; refine (CE.out _ _ hk1 hr2a).mono ?_; rintro e w2 ⟨rfl, hb2⟩; have hr1b := hr1a.next hb2; have hr2b := hr2a.next hb2)
        | (refine wpList_lenB hr1b rfl rfl rfl ?_) | (refine wpList_lenB hr2b rfl rfl rfl ?_)
        | (go_at_call 38; refine (awake07 _).mono ?_; rintro e w6 ⟨rfl, hb6⟩))
      go_ret
      have s1 := hb1.size
      have s2 := hb2.size
      exact RetB.mk rfl (hb1.trans ((hb2.mono (by omega)).trans (hb6.mono (by omega))))
  · have b32 : ((key.length : Int) != 32) = true := by simp; omega
    have CN : RowKit.Hid (∀ w, RdB w.heap.size w v1 key → Calls Try.prog 37 #[v1] w (RetPE 2 w)) := Lib.hid (fun w h => new_short v1 key w h h32)
    have H32 := Lib.hid h32
    clear h32
    go_enter Try.func7, Try.ntmps7
    go_wp2_with (first
        | (go_at_call 37; refine (CN.out _ hr1).mono ?_; rintro e w1 ⟨rfl, hb1⟩; have hr1a := hr1.next hb1; have hr2a := hr2.next hb1)
        | (go_at_call 42; refine (encrypt_nil _ _).mono ?_; rintro e w2 ⟨rfl, hb2⟩; have hr1b := hr1a.next hb2; have hr2b := hr2a.next hb2)
        | (refine wpList_lenB hr1b rfl rfl rfl ?_) | (refine wpList_lenB hr2b rfl rfl rfl ?_)
        | (go_at_call 38; refine (awake07 _).mono ?_; rintro e w6 ⟨rfl, hb6⟩))
    go_ret
    have s1 := hb1.size
    have s2 := hb2.size
    exact RetB.mk rfl (hb1.trans ((hb2.mono (by omega)).trans (hb6.mono (by omega))))
theorem aesDecrypts_walk (v1 v2 : Value) (key l : List Nat) (w : World) (hkb : Bytes key) (hr1 : RdB w.heap.size w v1 key) (hk : key.length ≤ 140737488351232) (hlb : Bytes l) (hr2 : RdB w.heap.size w v2 l) (hl : l.length ≤ 140737488351232) :
    Calls Try.prog 9 #[v1, v2] w (RetB (.bool true) w) := by
  by_cases h32 : key.length = 32
  · have b32 : ((key.length : Int) != 32) = false := by rw [h32]; rfl
    have CN : RowKit.Hid (∀ w, RdB w.heap.size w v1 key → Calls Try.prog 37 #[v1] w (RetK (flatL key) w)) := Lib.hid (fun w h => new_calls v1 key w hkb h h32)
    by_cases h16 : l.length = 16
    · have b16 : ((l.length : Int) != 16) = false := by rw [h16]; rfl
      obtain ⟨y, hy⟩ : ∃ y, y = xorL (decF (flatL key) l 14) (rkF (flatL key) 0) := ⟨_, rfl⟩
      have hye : decL key l = y := by rw [hy, decF_eq key l h32 hkb, rkF_eq key h32 hkb]; rfl
      have hyl := decF_len key l h32 hkb h16 hlb
      rw [← hy] at hyl
      have CE : RowKit.Hid (∀ p w, KeyAt w.heap.size w p (flatL key) → RdB w.heap.size w v2 l → Calls Try.prog 48 #[p, v2] w (RetSE y w)) := Lib.hid (fun p w hp h => hy ▸ decrypt_calls p v2 _ l w hp (flatL_length key h32 hkb) (flatL_bytes key h32 hkb) h hlb h16)
      have CR : RowKit.Hid (∀ vt w, RdB w.heap.size w v1 key → RdB w.heap.size w v2 l → RdB w.heap.size w vt sboxL → Calls Try.prog 49 #[v1, v2, vt] w (RetS y w)) := Lib.hid (fun vt w h1 h2 h3 => hye ▸ rdec_calls v1 v2 vt key l sboxL w hkb h1 h32 hlb h2 h16 h3 rfl)
      have CQ : RowKit.Hid (∀ va vb w, RdB w.heap.size w va y → RdB w.heap.size w vb y → Calls Try.prog 43 #[va, vb] w (RetB (.bool true) w)) := Lib.hid (fun va vb w h1 h2 => by
        have h := same_calls va vb y y w h1 h2 (by omega)
        rwa [decide_eq_true rfl] at h)
      clear hy hye
      generalize flatL key = rk at *
      have H16 := Lib.hid h16
      have H32 := Lib.hid h32
      have HYL := Lib.hid hyl
      clear h16 h32 hyl
      go_enter Try.func9, Try.ntmps9
      go_wp2_with (first
        | (go_at_call 37; refine (CN.out _ hr1).mono ?_; rintro e w1 ⟨p, rfl, hk1, hb1⟩; have hr1a := hr1.next hb1; have hr2a := hr2.next hb1)
        | (go_at_call 48; refine (CE.out _ _ hk1 hr2a).mono ?_; rintro e w2 ⟨vx, rfl, hx2, hb2⟩; have hr1b := hr1a.next hb2; have hr2b := hr2a.next hb2)
        | (refine wpList_lenB hr1b rfl rfl rfl ?_) | (refine wpList_lenB hr2b rfl rfl rfl ?_)
        | (go_at_call 40; refine (rtable_calls _).mono ?_; rintro e w3 ⟨vt, rfl, ht3, hb3⟩)
        | (go_at_call 49; refine (CR.out _ _ (hr1b.next hb3) (hr2b.next hb3) (RdB.of_own ht3)).mono ?_; rintro e w4 ⟨v4, rfl, ho4, hb4⟩)
        | (go_at_call 43; refine (CQ.out _ _ _ (((RdB.of_own hx2).next hb3).next hb4) (RdB.of_own ho4)).mono ?_; rintro e w5 ⟨rfl, hb5⟩)
        | (go_at_call 38; refine (awake07 _).mono ?_; rintro e w6 ⟨rfl, hb6⟩))
      go_ret
      have s1 := hb1.size
      have s2 := hb2.size
      have s3 := hb3.size
      have s4 := hb4.size
      have s5 := hb5.size
      exact RetB.mk rfl (hb1.trans ((hb2.mono (by omega)).trans ((hb3.mono (by omega)).trans ((hb4.mono (by omega)).trans ((hb5.mono (by omega)).trans (hb6.mono (by omega)))))))
    · have b16 : ((l.length : Int) != 16) = true := by simp; omega
      have CE : RowKit.Hid (∀ p w, KeyAt w.heap.size w p (flatL key) → RdB w.heap.size w v2 l → Calls Try.prog 48 #[p, v2] w (RetE 2 w)) := Lib.hid (fun p w hp h => decrypt_short _ p v2 _ l w hp h h16)
      generalize flatL key = rk at *
      have H16 := Lib.hid h16
      have H32 := Lib.hid h32
      clear h16 h32
      go_enter Try.func9, Try.ntmps9
      go_wp2_with (first
        | (go_at_call 37; refine (CN.out _ hr1).mono ?_; rintro e w1 ⟨p, rfl, hk1, hb1⟩; have hr1a := hr1.next hb1; have hr2a := hr2.next hb1)
        | (go_at_call 48; refine (CE.out _ _ hk1 hr2a).mono ?_; rintro e w2 ⟨rfl, hb2⟩; have hr1b := hr1a.next hb2; have hr2b := hr2a.next hb2)
        | (refine wpList_lenB hr1b rfl rfl rfl ?_) | (refine wpList_lenB hr2b rfl rfl rfl ?_)
        | (go_at_call 38; refine (awake07 _).mono ?_; rintro e w6 ⟨rfl, hb6⟩))
      go_ret
      have s1 := hb1.size
      have s2 := hb2.size
      exact RetB.mk rfl (hb1.trans ((hb2.mono (by omega)).trans (hb6.mono (by omega))))
  · have b32 : ((key.length : Int) != 32) = true := by simp; omega
    have CN : RowKit.Hid (∀ w, RdB w.heap.size w v1 key → Calls Try.prog 37 #[v1] w (RetPE 2 w)) := Lib.hid (fun w h => new_short v1 key w h h32)
    have H32 := Lib.hid h32
    clear h32
    go_enter Try.func9, Try.ntmps9
    go_wp2_with (first
        | (go_at_call 37; refine (CN.out _ hr1).mono ?_; rintro e w1 ⟨rfl, hb1⟩; have hr1a := hr1.next hb1; have hr2a := hr2.next hb1)
        | (go_at_call 48; refine (decrypt_nil _ _).mono ?_; rintro e w2 ⟨rfl, hb2⟩; have hr1b := hr1a.next hb2; have hr2b := hr2a.next hb2)
        | (refine wpList_lenB hr1b rfl rfl rfl ?_) | (refine wpList_lenB hr2b rfl rfl rfl ?_)
        | (go_at_call 38; refine (awake07 _).mono ?_; rintro e w6 ⟨rfl, hb6⟩))
    go_ret
    have s1 := hb1.size
    have s2 := hb2.size
    exact RetB.mk rfl (hb1.trans ((hb2.mono (by omega)).trans (hb6.mono (by omega))))
end Go.Proofs.Ytfinekmegiengaa
