/- The walks of the laws WrapBack, WrapAgain. -/
import Derived.Test.YtfinekmegiengaaL10
namespace Go.Proofs.Ytfinekmegiengaa
open Go.RowKit Nep
set_option maxRecDepth 100000
set_option linter.unusedVariables false
set_option linter.unusedSimpArgs false
set_option maxHeartbeats 1000000

theorem wrapBack_walk (v2 : Value) (key l : List Nat) (w : World) (hkb : Bytes key) (h32 : key.length = 32) (hlb : Bytes l) (hr2 : RdB w.heap.size w v2 l) (hn2 : l.length ≤ 140737488351232) :
    Calls Try.prog 19 #[blk key, v2] w (RetB (.bool true) w) := by
  obtain ⟨vk, hvk⟩ : ∃ vk, vk = blk key := ⟨_, rfl⟩
  rw [← hvk]
  have HVK := Lib.hid hvk
  clear hvk
  by_cases hok : WOk l.length
  · have CR : RowKit.Hid (∀ w, Calls Try.prog 69 #[.int .i64 (l.length : Int)] w (RetP (.bool true) w)) := Lib.hid (fun w => rwright_yes l.length rfl hok w)
    obtain ⟨n, hn⟩ : ∃ n, n = l.length / 8 := ⟨_, rfl⟩
    obtain ⟨h16, h256, hm⟩ := hok
    have hln : l.length = 8 * n := by omega
    obtain ⟨x, hx⟩ : ∃ x, x = wrapT key l n := ⟨_, rfl⟩
    have C1 : RowKit.Hid (∀ va w, RdB w.heap.size w va key → RdB w.heap.size w v2 l → Calls Try.prog 68 #[va, v2] w (RetSE x w)) := Lib.hid (fun va w h1 h2 => hx ▸ wrap_calls va v2 key l n w hkb h1 h32 hlb h2 hln (by omega) (by omega))
    have C2 : RowKit.Hid (∀ va vx w, RdB w.heap.size w va key → RdB w.heap.size w vx x → Calls Try.prog 71 #[va, vx] w (RetSE l w)) := Lib.hid (fun va vx w h1 h2 => unwrap_back va vx key l n w hkb h1 h32 hlb hln (hx ▸ h2) (by omega) (by omega))
    have QL := same_true l hn2
    have H32 := Lib.hid h32
    clear h16 h256 hm hn hln hx h32
    go_enter Try.func19, Try.ntmps19
    go_wp2_with (first
      | (apply wpList_boxR vk; rfl; rfl; rfl; intro gk w1 hgk1 hgk2 hrk1 hb1; rw [HVK.out, cells_blk] at hrk1; have hl1 := hr2.next hb1)
      | (refine wpList_lenB hl1 rfl rfl rfl ?_)
      | (go_at_call 69; refine (CR.out _).mono ?_; rintro e w2 ⟨rfl, rfl⟩)
      | (apply wpList_cutArrL 0 32 32; rfl; rfl; exact Try.underlying48; exact size_u8; rfl; exact .inl ⟨rfl, rfl⟩; exact .inl ⟨rfl, rfl, rfl⟩; exact .inl ⟨rfl, rfl⟩; omega; omega; omega)
      | (go_at_call 68; refine (C1.out _ _ ((rdb_of_row hrk1 H32.out).up hrk1.lt) hl1).mono ?_; rintro e w3 ⟨vx, rfl, hx3, hb3⟩; have hrk3 := hrk1.next hb3; have hl3 := hl1.next hb3)
      | (go_at_call 71; refine (C2.out _ _ _ ((rdb_of_row hrk3 H32.out).up hrk3.lt) (RdB.of_own hx3)).mono ?_; rintro e w4 ⟨vy, rfl, hy4, hb4⟩; have hl4 := hl3.next hb4)
      | (go_at_call 43; (with_reducible refine (QL.out _ _ _ (RdB.of_own hy4) hl4).mono ?_); rintro e w5 ⟨rfl, hb5⟩)
      | (go_at_call 67; refine (awake10 _).mono ?_; rintro e w6 ⟨rfl, hb6⟩))
    go_ret
    have s1 := hb1.size
    have s3 := hb3.size
    have s4 := hb4.size
    have s5 := hb5.size
    exact RetB.mk rfl (hb1.trans ((hb3.mono (by omega)).trans ((hb4.mono (by omega)).trans ((hb5.mono (by omega)).trans (hb6.mono (by omega))))))
  · have CR : RowKit.Hid (∀ w, Calls Try.prog 69 #[.int .i64 (l.length : Int)] w (RetP (.bool false) w)) := Lib.hid (fun w => rwright_no l.length rfl hok w)
    clear hok
    go_enter Try.func19, Try.ntmps19
    go_wp2_with (first
      | (apply wpList_boxR vk; rfl; rfl; rfl; intro gk w1 hgk1 hgk2 hrk1 hb1; have hl1 := hr2.next hb1)
      | (refine wpList_lenB hl1 rfl rfl rfl ?_)
      | (go_at_call 69; refine (CR.out _).mono ?_; rintro e w2 ⟨rfl, rfl⟩)
      | (go_at_call 67; refine (awake10 _).mono ?_; rintro e w6 ⟨rfl, hb6⟩))
    go_ret
    exact RetB.mk rfl (hb1.trans (hb6.mono hb1.size))

theorem wrapAgain_walk (v2 : Value) (key l : List Nat) (w : World) (hkb : Bytes key) (h32 : key.length = 32) (hlb : Bytes l) (hr2 : RdB w.heap.size w v2 l) (hn2 : l.length ≤ 140737488351232) :
    Calls Try.prog 20 #[blk key, v2] w (RetB (.bool true) w) := by
  obtain ⟨vk, hvk⟩ : ∃ vk, vk = blk key := ⟨_, rfl⟩
  rw [← hvk]
  have HVK := Lib.hid hvk
  clear hvk
  by_cases h8 : 8 ≤ l.length
  · have f8 : decide ((l.length : Int) < 8) = false := by simp; omega
    have ew : IntKind.i64.wrap ((l.length : Int) - 8) = (l.length : Int) - 8 := IntWalk.i64_in _ (by omega)
    by_cases hok : WOk (l.length - 8)
    · have CR : RowKit.Hid (∀ w, Calls Try.prog 69 #[.int .i64 ((l.length : Int) - 8)] w (RetP (.bool true) w)) := Lib.hid (fun w => rwright_yes (l.length - 8) (by omega) hok w)
      obtain ⟨n, hn⟩ : ∃ n, n = (l.length - 8) / 8 := ⟨_, rfl⟩
      obtain ⟨h16, h256, hm⟩ := hok
      have hln : l.length = 8 * (n + 1) := by omega
      by_cases hfit : (unT key l n).1 = ivA
      · obtain ⟨z, hz⟩ : ∃ z, z = (unT key l n).2.flatten := ⟨_, rfl⟩
        have hwz := wrapT_unT key l n h32 hkb hln hlb (by omega) hfit
        rw [← hz] at hwz
        obtain ⟨hz1, hz2, hz3⟩ := hwz
        have C2 : RowKit.Hid (∀ va w, RdB w.heap.size w va key → RdB w.heap.size w v2 l → Calls Try.prog 71 #[va, v2] w (RetSE z w)) := Lib.hid (fun va w h1 h2 => by
          have h := unwrap_calls va v2 key l n w hkb h1 h32 hlb h2 hln (by omega) (by omega)
          change Calls _ _ _ _ (RetU (unT key l n) w) at h
          rw [retU_yes hfit] at h
          rw [hz]
          exact h)
        have C1 : RowKit.Hid (∀ va vz w, RdB w.heap.size w va key → RdB w.heap.size w vz z → Calls Try.prog 68 #[va, vz] w (RetSE l w)) := Lib.hid (fun va vz w h1 h2 => by
          have h := wrap_calls va vz key z n w hkb h1 h32 hz2 h2 hz1 (by omega) (by omega)
          rw [show flatP (wrapAR (encE key) n (ivA, parts8 z n) (6 * n)) = l from hz3] at h
          exact h)
        have QL := same_true l hn2
        have H32 := Lib.hid h32
        clear h16 h256 hm hn hln h32 hz hz1 hz2 hz3 hfit h8
        go_enter Try.func20, Try.ntmps20
        go_wp2_with (first
          | (apply wpList_boxR vk; rfl; rfl; rfl; intro gk w1 hgk1 hgk2 hrk1 hb1; rw [HVK.out, cells_blk] at hrk1; have hl1 := hr2.next hb1)
          | (refine wpList_lenB hl1 rfl rfl rfl ?_)
          | (go_at_call 69; refine (CR.out _).mono ?_; rintro e w2 ⟨rfl, rfl⟩)
          | (apply wpList_cutArrL 0 32 32; rfl; rfl; exact Try.underlying48; exact size_u8; rfl; exact .inl ⟨rfl, rfl⟩; exact .inl ⟨rfl, rfl, rfl⟩; exact .inl ⟨rfl, rfl⟩; omega; omega; omega)
          | (go_at_call 71; refine (C2.out _ _ ((rdb_of_row hrk1 H32.out).up hrk1.lt) hl1).mono ?_; rintro e w3 ⟨vx, rfl, hx3, hb3⟩; have hrk3 := hrk1.next hb3; have hl3 := hl1.next hb3)
          | (go_at_call 68; refine (C1.out _ _ _ ((rdb_of_row hrk3 H32.out).up hrk3.lt) (RdB.of_own hx3)).mono ?_; rintro e w4 ⟨vy, rfl, hy4, hb4⟩; have hl4 := hl3.next hb4)
          | (go_at_call 43; (with_reducible refine (QL.out _ _ _ (RdB.of_own hy4) hl4).mono ?_); rintro e w5 ⟨rfl, hb5⟩)
          | (go_at_call 67; refine (awake10 _).mono ?_; rintro e w6 ⟨rfl, hb6⟩))
        go_ret
        have s1 := hb1.size
        have s3 := hb3.size
        have s4 := hb4.size
        have s5 := hb5.size
        exact RetB.mk rfl (hb1.trans ((hb3.mono (by omega)).trans ((hb4.mono (by omega)).trans ((hb5.mono (by omega)).trans (hb6.mono (by omega))))))
      · have C2 : RowKit.Hid (∀ va w, RdB w.heap.size w va key → RdB w.heap.size w v2 l → Calls Try.prog 71 #[va, v2] w (RetE 16 w)) := Lib.hid (fun va w h1 h2 => by
          have h := unwrap_calls va v2 key l n w hkb h1 h32 hlb h2 hln (by omega) (by omega)
          change Calls _ _ _ _ (RetU (unT key l n) w) at h
          rw [retU_no hfit] at h
          exact h)
        have H32 := Lib.hid h32
        clear h16 h256 hm hn hln h32 hfit h8
        go_enter Try.func20, Try.ntmps20
        go_wp2_with (first
          | (apply wpList_boxR vk; rfl; rfl; rfl; intro gk w1 hgk1 hgk2 hrk1 hb1; rw [HVK.out, cells_blk] at hrk1; have hl1 := hr2.next hb1)
          | (refine wpList_lenB hl1 rfl rfl rfl ?_)
          | (go_at_call 69; refine (CR.out _).mono ?_; rintro e w2 ⟨rfl, rfl⟩)
          | (apply wpList_cutArrL 0 32 32; rfl; rfl; exact Try.underlying48; exact size_u8; rfl; exact .inl ⟨rfl, rfl⟩; exact .inl ⟨rfl, rfl, rfl⟩; exact .inl ⟨rfl, rfl⟩; omega; omega; omega)
          | (go_at_call 71; refine (C2.out _ _ ((rdb_of_row hrk1 H32.out).up hrk1.lt) hl1).mono ?_; rintro e w3 ⟨rfl, hb3⟩)
          | (go_at_call 67; refine (awake10 _).mono ?_; rintro e w6 ⟨rfl, hb6⟩))
        go_ret
        have s1 := hb1.size
        have s3 := hb3.size
        exact RetB.mk rfl (hb1.trans ((hb3.mono (by omega)).trans (hb6.mono (by omega))))
    · have CR : RowKit.Hid (∀ w, Calls Try.prog 69 #[.int .i64 ((l.length : Int) - 8)] w (RetP (.bool false) w)) := Lib.hid (fun w => rwright_no (l.length - 8) (by omega) hok w)
      clear hok h8
      go_enter Try.func20, Try.ntmps20
      go_wp2_with (first
        | (apply wpList_boxR vk; rfl; rfl; rfl; intro gk w1 hgk1 hgk2 hrk1 hb1; have hl1 := hr2.next hb1)
        | (refine wpList_lenB hl1 rfl rfl rfl ?_)
        | (go_at_call 69; refine (CR.out _).mono ?_; rintro e w2 ⟨rfl, rfl⟩)
        | (go_at_call 67; refine (awake10 _).mono ?_; rintro e w6 ⟨rfl, hb6⟩))
      go_ret
      exact RetB.mk rfl (hb1.trans (hb6.mono hb1.size))
  · have f8 : decide ((l.length : Int) < 8) = true := by simp; omega
    clear h8
    go_enter Try.func20, Try.ntmps20
    go_wp2_with (first
      | (apply wpList_boxR vk; rfl; rfl; rfl; intro gk w1 hgk1 hgk2 hrk1 hb1; have hl1 := hr2.next hb1)
      | (refine wpList_lenB hl1 rfl rfl rfl ?_; clear hl1)
      | (go_at_call 67; refine (awake10 _).mono ?_; rintro e w6 ⟨rfl, hb6⟩))
    go_ret
    exact RetB.mk rfl (hb1.trans (hb6.mono hb1.size))
end Go.Proofs.Ytfinekmegiengaa
