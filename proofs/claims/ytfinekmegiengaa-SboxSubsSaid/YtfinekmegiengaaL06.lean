/- The walks of the laws SboxSubs and SboxWords. -/
import Derived.Test.YtfinekmegiengaaW06c
import Derived.Test.YtfinekmegiengaaW06d
import Derived.Test.YtfinekmegiengaaPlainB
namespace Go.Proofs.Ytfinekmegiengaa
open Go.RowKit Nep
set_option maxRecDepth 100000

theorem sboxSubs_walk (a : Nat) (ha : a < 256) (w : World) : Calls Try.prog 3 #[.int .u8 a] w (RetB (.bool true) w) := by
  obtain ⟨s, hs⟩ : ∃ s, s = sb a := ⟨_, rfl⟩
  obtain ⟨k, hk⟩ : ∃ k, k = bk a := ⟨_, rfl⟩
  have ls : s < 256 := hs ▸ sb_lt _
  have lk : k < 256 := hk ▸ bk_lt _
  have C1 : ∀ w, Calls Try.prog 29 #[.int .u8 a] w (RetB (.int .u8 s) w) := fun w => hs ▸ sub_calls a rfl ha w
  have C2 : ∀ w, Calls Try.prog 31 #[.int .u8 s] w (RetB (.int .u8 a) w) := fun w => by
    have h := back_calls s rfl ls w
    rwa [hs, bk_sb a ha, ← hs] at h
  have C3 : ∀ w, Calls Try.prog 31 #[.int .u8 a] w (RetB (.int .u8 k) w) := fun w => hk ▸ back_calls a rfl ha w
  have C4 : ∀ w, Calls Try.prog 29 #[.int .u8 k] w (RetB (.int .u8 a) w) := fun w => by
    have h := sub_calls k rfl lk w
    rwa [hk, sb_bk a ha, ← hk] at h
  have C5 : ∀ w, Calls Try.prog 30 #[.int .u8 a] w (RetP (.int .u8 s) w) := fun w => by
    have h := sub06 a ha w
    rwa [rsub_eq a ha, ← hs] at h
  have hne : ((s : Int) != (a : Int)) = true := by
    have := sb_ne a ha
    simp
    omega
  clear hs hk
  have B := Below.refl w.heap.size w
  go_enter Try.func3, Try.ntmps3
  go_wp2_with (first
    | (go_at_call 29; (first | (with_reducible refine (C1 _).mono ?_) | (with_reducible refine (C4 _).mono ?_)); rintro e w' ⟨rfl, hb⟩; replace B := B.trans (hb.mono B.size))
    | (go_at_call 31; (first | (with_reducible refine (C2 _).mono ?_) | (with_reducible refine (C3 _).mono ?_)); rintro e w' ⟨rfl, hb⟩; replace B := B.trans (hb.mono B.size))
    | (go_at_call 30; refine (C5 _).mono ?_; rintro e w' ⟨rfl, rfl⟩)
    | (go_at_call 32; refine (awake06 _).mono ?_; rintro e w' ⟨rfl, hb⟩; replace B := B.trans (hb.mono B.size)))
  go_ret
  exact RetB.mk rfl B
end Go.Proofs.Ytfinekmegiengaa
