/- The walk of the law WrapUnwraps. -/
import Derived.Test.YtfinekmegiengaaW10f
namespace Go.Proofs.Ytfinekmegiengaa
open Go.RowKit Nep
set_option maxRecDepth 100000
set_option linter.unusedVariables false
set_option linter.unusedSimpArgs false
set_option maxHeartbeats 1000000

def RetUV (b : Bool) (z : List Nat) (w : World) (e : Ending) (w' : World) : Prop := ∃ v', e = .returned (.tuple #[v', .bool b]) ∧ RdB w'.heap.size w' v' z ∧ Below w.heap.size w w'

theorem wrapUnwraps_walk (v1 v2 : Value) (key l : List Nat) (w : World) (hkb : Bytes key) (hr1 : RdB w.heap.size w v1 key) (hn1 : key.length ≤ 140737488351232) (hlb : Bytes l) (hr2 : RdB w.heap.size w v2 l) (hn2 : l.length ≤ 140737488351232) :
    Calls Try.prog 18 #[v1, v2] w (RetB (.bool true) w) := by
  by_cases h64 : 64 < l.length
  · have f64 : decide ((64 : Int) < (l.length : Int)) = true := by simp; omega
    by_cases h256 : l.length ≤ 264
    · have f256 : decide ((l.length : Int) ≤ 264) = true := by simp; omega
      clear h64 h256
      go_enter Try.func18, Try.ntmps18
      go_wp2_with (first
        | (refine wpList_lenB hr2 rfl rfl rfl ?_)
        | (go_at_call 67; refine (awake10 _).mono ?_; rintro e w' ⟨rfl, hb⟩))
      go_ret
      exact RetB.mk rfl hb
    · have f256 : decide ((l.length : Int) ≤ 264) = false := by simp; omega
      have hbad : ¬ WOk (l.length - 8) := fun h => by have := h.2.1; omega
      have h8 : 8 ≤ l.length := by omega
      clear h64 h256
      by_cases h32 : key.length = 32
      · have k32 : ((key.length : Int) != 32) = false := by simp; omega
        have f8 : decide ((l.length : Int) < 8) = false := by simp; omega
        have ew : IntKind.i64.wrap ((l.length : Int) - 8) = (l.length : Int) - 8 := IntWalk.i64_in _ (by omega)
        have C1 : RowKit.Hid (Calls Try.prog 71 #[v1, v2] w (RetE 2 w)) := Lib.hid (unwrap_bad v1 v2 key l w hkb hr1 hr2 hn2 (fun h => hbad h.2.2))
        have CR : RowKit.Hid (∀ w, Calls Try.prog 69 #[.int .i64 ((l.length : Int) - 8)] w (RetP (.bool false) w)) := Lib.hid (fun w => rwright_no (l.length - 8) (by omega) hbad w)
        have hr20 := hr2
        clear hbad h32 h8
        go_enter Try.func18, Try.ntmps18
        go_wp2_with (first
          | (refine wpList_lenB hr2 rfl rfl rfl ?_)
          | (go_at_call 71; refine (C1.out).mono ?_; rintro e w1 ⟨rfl, hb1⟩; have ha1 := hr1.next hb1; have hc1 := hr20.next hb1)
          | (refine wpList_lenB ha1 rfl rfl rfl ?_; clear ha1)
          | (refine wpList_lenB hc1 rfl rfl rfl ?_)
          | (go_at_call 69; refine (CR.out _).mono ?_; rintro e w2 ⟨rfl, rfl⟩)
          | (go_at_call 67; refine (awake10 _).mono ?_; rintro e w' ⟨rfl, hb⟩))
        go_ret
        exact RetB.mk rfl (hb1.trans (hb.mono hb1.size))
      · have k32 : ((key.length : Int) != 32) = true := by simp; omega
        have C1 : RowKit.Hid (Calls Try.prog 71 #[v1, v2] w (RetE 2 w)) := Lib.hid (unwrap_bad v1 v2 key l w hkb hr1 hr2 hn2 (fun h => h32 h.1))
        clear h32
        go_enter Try.func18, Try.ntmps18
        go_wp2_with (first
          | (refine wpList_lenB hr2 rfl rfl rfl ?_)
          | (go_at_call 71; refine (C1.out).mono ?_; rintro e w1 ⟨rfl, hb1⟩; have ha1 := hr1.next hb1)
          | (refine wpList_lenB ha1 rfl rfl rfl ?_; clear ha1)
          | (go_at_call 67; refine (awake10 _).mono ?_; rintro e w' ⟨rfl, hb⟩))
        go_ret
        exact RetB.mk rfl (hb1.trans (hb.mono hb1.size))
  · have f64 : decide ((64 : Int) < (l.length : Int)) = false := by simp; omega
    by_cases h32 : key.length = 32
    · by_cases h8 : 8 ≤ l.length
      · by_cases hbad : ¬ WOk (l.length - 8)
        · have k32 : ((key.length : Int) != 32) = false := by simp; omega
          have f8 : decide ((l.length : Int) < 8) = false := by simp; omega
          have ew : IntKind.i64.wrap ((l.length : Int) - 8) = (l.length : Int) - 8 := IntWalk.i64_in _ (by omega)
          have C1 : RowKit.Hid (Calls Try.prog 71 #[v1, v2] w (RetE 2 w)) := Lib.hid (unwrap_bad v1 v2 key l w hkb hr1 hr2 hn2 (fun h => hbad h.2.2))
          have CR : RowKit.Hid (∀ w, Calls Try.prog 69 #[.int .i64 ((l.length : Int) - 8)] w (RetP (.bool false) w)) := Lib.hid (fun w => rwright_no (l.length - 8) (by omega) hbad w)
          have hr20 := hr2
          clear hbad h32 h8 h64
          go_enter Try.func18, Try.ntmps18
          go_wp2_with (first
            | (refine wpList_lenB hr2 rfl rfl rfl ?_; clear hr2)
            | (go_at_call 71; refine (C1.out).mono ?_; rintro e w1 ⟨rfl, hb1⟩; have ha1 := hr1.next hb1; have hc1 := hr20.next hb1)
            | (refine wpList_lenB ha1 rfl rfl rfl ?_; clear ha1)
            | (refine wpList_lenB hc1 rfl rfl rfl ?_)
            | (go_at_call 69; refine (CR.out _).mono ?_; rintro e w2 ⟨rfl, rfl⟩)
            | (go_at_call 67; refine (awake10 _).mono ?_; rintro e w' ⟨rfl, hb⟩))
          go_ret
          exact RetB.mk rfl (hb1.trans (hb.mono hb1.size))
        · have hok : WOk (l.length - 8) := Classical.not_not.1 hbad
          clear hbad
          have k32 : ((key.length : Int) != 32) = false := by simp; omega
          have f8 : decide ((l.length : Int) < 8) = false := by simp; omega
          have ew : IntKind.i64.wrap ((l.length : Int) - 8) = (l.length : Int) - 8 := IntWalk.i64_in _ (by omega)
          obtain ⟨n, hn⟩ : ∃ n, n = (l.length - 8) / 8 := ⟨_, rfl⟩
          have hok' := hok
          obtain ⟨h16, h256, hm⟩ := hok'
          have hln : l.length = 8 * (n + 1) := by omega
          have hst := unT_st key l n h32 hkb hln hlb (by omega)
          obtain ⟨y, hy⟩ : ∃ y, y = (unT key l n).2.flatten := ⟨_, rfl⟩
          have hyl : y.length = 8 * n := by rw [hy, flat8_length hst.2.2, hst.2.1]
          have QL := same_true y (by omega)
          have CR : RowKit.Hid (∀ w, Calls Try.prog 69 #[.int .i64 ((l.length : Int) - 8)] w (RetP (.bool true) w)) := Lib.hid (fun w => rwright_yes (l.length - 8) (by omega) hok w)
          have U1 : Calls Try.prog 71 #[v1, v2] w (RetU (unT key l n) w) := unwrap_calls v1 v2 key l n w hkb hr1 h32 hlb hr2 hln (by omega) (by omega)
          have U2 : ∀ vt w, RdB w.heap.size w v1 key → RdB w.heap.size w v2 l → RdB w.heap.size w vt sboxL → Calls Try.prog 72 #[v1, v2, vt] w (RetUB (unT key l n) w) := fun vt w a b c => runwrap_calls v1 v2 vt key l sboxL n w hkb a h32 hlb b c rfl hln (by omega) (by omega)
          have hr20 := hr2
          by_cases hfit : (unT key l n).1 = ivA
          · rw [retU_yes hfit, ← hy] at U1
            have C1 := Lib.hid U1
            have C2 : RowKit.Hid (∀ vt w, RdB w.heap.size w v1 key → RdB w.heap.size w v2 l → RdB w.heap.size w vt sboxL → Calls Try.prog 72 #[v1, v2, vt] w (RetUV true y w)) := Lib.hid (fun vt w a b c => (U2 vt w a b c).mono (fun e w' ⟨v', h1, h2, h3⟩ => ⟨v', by rw [h1, decide_eq_true hfit], hy ▸ h2, h3⟩))
            clear hok h32 h16 h256 hm hn hln hst hy hyl U1 U2 hfit h8 h64
            go_enter Try.func18, Try.ntmps18
            go_wp2_with (first
              | (refine wpList_lenB hr2 rfl rfl rfl ?_; clear hr2)
              | (go_at_call 71; refine (C1.out).mono ?_; rintro e w1 ⟨vy, rfl, hy1, hb1⟩; have ha1 := hr1.next hb1; have hc1 := hr20.next hb1; have hk1 := hr1.next hb1)
              | (refine wpList_lenB hk1 rfl rfl rfl ?_; clear hk1)
              | (refine wpList_lenB hc1 rfl rfl rfl ?_)
              | (go_at_call 69; refine (CR.out _).mono ?_; rintro e w2 ⟨rfl, rfl⟩)
              | (go_at_call 40; refine (rtable_calls _).mono ?_; rintro e w3 ⟨vt, rfl, ht3, hb3⟩; have ha3 := ha1.next hb3; have hc3 := hc1.next hb3; have hy3 := (RdB.of_own hy1).next hb3)
              | (go_at_call 72; refine (C2.out _ _ ha3 hc3 (RdB.of_own ht3)).mono ?_; rintro e w4 ⟨vz, rfl, hz4, hb4⟩; have hy4 := hy3.next hb4)
              | (go_at_call 43; (with_reducible refine (QL.out _ _ _ hy4 hz4).mono ?_); rintro e w5 ⟨rfl, hb5⟩)
              | (go_at_call 67; refine (awake10 _).mono ?_; rintro e w' ⟨rfl, hb⟩))
            go_ret
            have s1 := hb1.size
            have s3 := hb3.size
            have s4 := hb4.size
            have s5 := hb5.size
            exact RetB.mk rfl (hb1.trans ((hb3.mono s1).trans ((hb4.mono (by omega)).trans ((hb5.mono (by omega)).trans (hb.mono (by omega))))))
          · rw [retU_no hfit] at U1
            have C1 := Lib.hid U1
            have C2 : RowKit.Hid (∀ vt w, RdB w.heap.size w v1 key → RdB w.heap.size w v2 l → RdB w.heap.size w vt sboxL → Calls Try.prog 72 #[v1, v2, vt] w (RetUV false y w)) := Lib.hid (fun vt w a b c => (U2 vt w a b c).mono (fun e w' ⟨v', h1, h2, h3⟩ => ⟨v', by rw [h1, decide_eq_false hfit], hy ▸ h2, h3⟩))
            clear hok h32 h16 h256 hm hn hln hst hy hyl U1 U2 hfit h8 h64
            go_enter Try.func18, Try.ntmps18
            go_wp2_with (first
              | (refine wpList_lenB hr2 rfl rfl rfl ?_; clear hr2)
              | (go_at_call 71; refine (C1.out).mono ?_; rintro e w1 ⟨rfl, hb1⟩; have ha1 := hr1.next hb1; have hc1 := hr20.next hb1; have hk1 := hr1.next hb1)
              | (refine wpList_lenB hk1 rfl rfl rfl ?_; clear hk1)
              | (refine wpList_lenB hc1 rfl rfl rfl ?_)
              | (go_at_call 69; refine (CR.out _).mono ?_; rintro e w2 ⟨rfl, rfl⟩)
              | (go_at_call 40; refine (rtable_calls _).mono ?_; rintro e w3 ⟨vt, rfl, ht3, hb3⟩; have ha3 := ha1.next hb3; have hc3 := hc1.next hb3)
              | (go_at_call 72; refine (C2.out _ _ ha3 hc3 (RdB.of_own ht3)).mono ?_; rintro e w4 ⟨vz, rfl, hz4, hb4⟩)
              | (go_at_call 67; refine (awake10 _).mono ?_; rintro e w' ⟨rfl, hb⟩))
            go_ret
            have s1 := hb1.size
            have s3 := hb3.size
            have s4 := hb4.size
            exact RetB.mk rfl (hb1.trans ((hb3.mono s1).trans ((hb4.mono (by omega)).trans (hb.mono (by omega)))))
      · have k32 : ((key.length : Int) != 32) = false := by simp; omega
        have f8 : decide ((l.length : Int) < 8) = true := by simp; omega
        have C1 : RowKit.Hid (Calls Try.prog 71 #[v1, v2] w (RetE 2 w)) := Lib.hid (unwrap_bad v1 v2 key l w hkb hr1 hr2 hn2 (fun h => h8 h.2.1))
        have hr20 := hr2
        clear h32 h8 h64
        go_enter Try.func18, Try.ntmps18
        go_wp2_with (first
          | (refine wpList_lenB hr2 rfl rfl rfl ?_; clear hr2)
          | (go_at_call 71; refine (C1.out).mono ?_; rintro e w1 ⟨rfl, hb1⟩; have ha1 := hr1.next hb1; have hc1 := hr20.next hb1)
          | (refine wpList_lenB ha1 rfl rfl rfl ?_; clear ha1)
          | (refine wpList_lenB hc1 rfl rfl rfl ?_; clear hc1)
          | (go_at_call 67; refine (awake10 _).mono ?_; rintro e w' ⟨rfl, hb⟩))
        go_ret
        exact RetB.mk rfl (hb1.trans (hb.mono hb1.size))
    · have k32 : ((key.length : Int) != 32) = true := by simp; omega
      have C1 : RowKit.Hid (Calls Try.prog 71 #[v1, v2] w (RetE 2 w)) := Lib.hid (unwrap_bad v1 v2 key l w hkb hr1 hr2 hn2 (fun h => h32 h.1))
      clear h32 h64
      go_enter Try.func18, Try.ntmps18
      go_wp2_with (first
        | (refine wpList_lenB hr2 rfl rfl rfl ?_; clear hr2)
        | (go_at_call 71; refine (C1.out).mono ?_; rintro e w1 ⟨rfl, hb1⟩; have ha1 := hr1.next hb1)
        | (refine wpList_lenB ha1 rfl rfl rfl ?_; clear ha1)
        | (go_at_call 67; refine (awake10 _).mono ?_; rintro e w' ⟨rfl, hb⟩))
      go_ret
      exact RetB.mk rfl (hb1.trans (hb.mono hb1.size))
end Go.Proofs.Ytfinekmegiengaa
