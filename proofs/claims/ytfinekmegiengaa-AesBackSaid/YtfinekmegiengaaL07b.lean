/- The walk of the law AesBack. -/
import Derived.Test.YtfinekmegiengaaL07s
namespace Go.Proofs.Ytfinekmegiengaa
open Go.RowKit Nep
set_option maxRecDepth 100000
set_option linter.unusedVariables false
set_option linter.unusedSimpArgs false
set_option maxHeartbeats 1000000

theorem aesBack_walk (key l : List Nat) (w : World) (hkb : Bytes key) (h32 : key.length = 32) (hlb : Bytes l) (h16 : l.length = 16) :
    Calls Try.prog 10 #[blk key, blk l] w (RetB (.bool true) w) := by
  obtain ⟨x, hx⟩ : ∃ x, x = encF (flatL key) l 14 := ⟨_, rfl⟩
  obtain ⟨u, hu⟩ : ∃ u, u = xorL (decF (flatL key) l 14) (rkF (flatL key) 0) := ⟨_, rfl⟩
  have hxl := encF_len key l h32 hkb h16 hlb
  have hul := decF_len key l h32 hkb h16 hlb
  have fl := flatL_length key h32 hkb
  have fb := flatL_bytes key h32 hkb
  have hy : xorL (decF (flatL key) x 14) (rkF (flatL key) 0) = l := by rw [hx]; exact dec_enc_all _ l fl fb h16 hlb
  have hv : encF (flatL key) u 14 = l := by rw [hu]; exact enc_dec_all _ l fl fb h16 hlb
  rw [← hx] at hxl
  rw [← hu] at hul
  have CN : RowKit.Hid (∀ v w, RdB w.heap.size w v key → Calls Try.prog 37 #[v] w (RetK (flatL key) w)) := Lib.hid (fun v w h => new_calls v key w hkb h h32)
  have C1 : RowKit.Hid (∀ p v w, KeyAt w.heap.size w p (flatL key) → RdB w.heap.size w v l → Calls Try.prog 42 #[p, v] w (RetSE x w)) := Lib.hid (fun p v w hp h => hx ▸ encrypt_calls p v _ l w hp fl fb h hlb h16)
  have C2 : RowKit.Hid (∀ p v w, KeyAt w.heap.size w p (flatL key) → RdB w.heap.size w v x → Calls Try.prog 48 #[p, v] w (RetSE l w)) := Lib.hid (fun p v w hp h => by
    have h2 := decrypt_calls p v _ x w hp fl fb h hxl.2 hxl.1
    rwa [hy] at h2)
  have C3 : RowKit.Hid (∀ p v w, KeyAt w.heap.size w p (flatL key) → RdB w.heap.size w v l → Calls Try.prog 48 #[p, v] w (RetSE u w)) := Lib.hid (fun p v w hp h => hu ▸ decrypt_calls p v _ l w hp fl fb h hlb h16)
  have C4 : RowKit.Hid (∀ p v w, KeyAt w.heap.size w p (flatL key) → RdB w.heap.size w v u → Calls Try.prog 42 #[p, v] w (RetSE l w)) := Lib.hid (fun p v w hp h => by
    have h2 := encrypt_calls p v _ u w hp fl fb h hul.2 hul.1
    rwa [hv] at h2)
  have QL := same_true l (by omega)
  obtain ⟨vk, hvk⟩ : ∃ vk, vk = blk key := ⟨_, rfl⟩
  obtain ⟨vl, hvl⟩ : ∃ vl, vl = blk l := ⟨_, rfl⟩
  rw [← hvk, ← hvl]
  clear hx hu hxl hul fl fb hy hv
  generalize flatL key = rk at *
  have HVK := Lib.hid hvk
  have HVL := Lib.hid hvl
  have H32 := Lib.hid h32
  have H16 := Lib.hid h16
  clear hvk hvl h32 h16
  go_enter Try.func10, Try.ntmps10
  go_wp2_with (first
    | (apply wpList_boxR vk; rfl; rfl; rfl; intro gk w1 hgk1 hgk2 hrk1 hb1; rw [HVK.out, cells_blk] at hrk1)
    | (apply wpList_boxR vl; rfl; rfl; rfl; intro gl w2 hgl1 hgl2 hrl2 hb2; rw [HVL.out, cells_blk] at hrl2; have hrk2 := hrk1.next hb2)
    | (apply wpList_cutArrL 0 32 32; rfl; rfl; exact Try.underlying48; exact size_u8; rfl; exact .inl ⟨rfl, rfl⟩; exact .inl ⟨rfl, rfl, rfl⟩; exact .inl ⟨rfl, rfl⟩; omega; omega; omega)
    | (apply wpList_cutArrL 0 16 16; rfl; rfl; exact Try.underlying49; exact size_u8; rfl; exact .inl ⟨rfl, rfl⟩; exact .inl ⟨rfl, rfl, rfl⟩; exact .inl ⟨rfl, rfl⟩; omega; omega; omega)
    | (go_at_call 37; refine (CN.out _ _ ((rdb_of_row hrk2 H32.out).up hrk2.lt)).mono ?_; rintro e w3 ⟨p, rfl, hk3, hb3⟩; have hl3 := ((rdb_of_row hrl2 H16.out).up hrl2.lt).next hb3)
    | (go_at_call 42; (with_reducible refine (C1.out _ _ _ hk3 hl3).mono ?_); rintro e w4 ⟨vx, rfl, hx4, hb4⟩; have hl4 := hl3.next hb4; have hk4 := (hk3.mono hb4).up hb4.size)
    | (go_at_call 48; (with_reducible refine (C2.out _ _ _ hk4 (RdB.of_own hx4)).mono ?_); rintro e w5 ⟨vy, rfl, hy5, hb5⟩; have hl5 := hl4.next hb5; have hk5 := (hk4.mono hb5).up hb5.size)
    | (go_at_call 48; (with_reducible refine (C3.out _ _ _ hk5 hl5).mono ?_); rintro e w6 ⟨vu, rfl, hu6, hb6⟩; have hl6 := hl5.next hb6; have hk6 := (hk5.mono hb6).up hb6.size)
    | (go_at_call 42; (with_reducible refine (C4.out _ _ _ hk6 (RdB.of_own hu6)).mono ?_); rintro e w7 ⟨vv, rfl, hv7, hb7⟩; have hl7 := hl6.next hb7; have hy7 := ((RdB.of_own hy5).next hb6).next hb7)
    | (go_at_call 43; (with_reducible refine (QL.out _ _ _ hy7 hl7).mono ?_); rintro e w8 ⟨rfl, hb8⟩; have hl8 := hl7.next hb8; have hv8 := (RdB.of_own hv7).next hb8)
    | (go_at_call 43; (with_reducible refine (QL.out _ _ _ hv8 hl8).mono ?_); rintro e w9 ⟨rfl, hb9⟩)
    | (go_at_call 38; refine (awake07 _).mono ?_; rintro e w10 ⟨rfl, hb10⟩))
  go_ret
  have s1 := hb1.size
  have s2 := hb2.size
  have s3 := hb3.size
  have s4 := hb4.size
  have s5 := hb5.size
  have s6 := hb6.size
  have s7 := hb7.size
  have s8 := hb8.size
  have s9 := hb9.size
  exact RetB.mk rfl (hb1.trans ((hb2.mono (by omega)).trans ((hb3.mono (by omega)).trans ((hb4.mono (by omega)).trans ((hb5.mono (by omega)).trans ((hb6.mono (by omega)).trans ((hb7.mono (by omega)).trans ((hb8.mono (by omega)).trans ((hb9.mono (by omega)).trans (hb10.mono (by omega)))))))))))
end Go.Proofs.Ytfinekmegiengaa
