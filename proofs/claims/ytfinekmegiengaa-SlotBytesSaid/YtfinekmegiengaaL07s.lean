/- The walk of the law AesShifts. -/
import Derived.Test.YtfinekmegiengaaL07e
namespace Go.Proofs.Ytfinekmegiengaa
open Go.RowKit Nep
set_option maxRecDepth 100000
set_option linter.unusedVariables false
set_option linter.unusedSimpArgs false
set_option maxHeartbeats 1000000

theorem same_true (a : List Nat) (h : a.length ≤ 140737488351232) : RowKit.Hid (∀ va vb w, RdB w.heap.size w va a → RdB w.heap.size w vb a → Calls Try.prog 43 #[va, vb] w (RetB (.bool true) w)) := Lib.hid (fun va vb w h1 h2 => by
  have h := same_calls va vb a a w h1 h2 h
  rwa [decide_eq_true rfl] at h)

theorem aesShifts_walk (v : Value) (l : List Nat) (w : World) (hlb : Bytes l) (hr : RdB w.heap.size w v l) (hl : l.length ≤ 140737488351232) :
    Calls Try.prog 8 #[v] w (RetB (.bool true) w) := by
  by_cases h16 : l.length = 16
  · have b16 : ((l.length : Int) != 16) = false := by rw [h16]; rfl
    obtain ⟨x, hx⟩ : ∃ x, x = shL l 1 := ⟨_, rfl⟩
    obtain ⟨y, hy⟩ : ∃ y, y = shL l 3 := ⟨_, rfl⟩
    have hxl : x.length = 16 := by rw [hx, shL_length]
    have hyl : y.length = 16 := by rw [hy, shL_length]
    have hxb : Bytes x := by rw [hx]; exact shL_bytes _ hlb _
    have hxz : shL x 3 = l := by rw [hx]; exact shL_13 h16
    have C1 : RowKit.Hid (∀ w, RdB w.heap.size w v l → Calls Try.prog 45 #[v] w (RetSE x w)) := Lib.hid (fun w h => hx ▸ shift1_calls v l w hlb h h16)
    have C3 : RowKit.Hid (∀ w, RdB w.heap.size w v l → Calls Try.prog 46 #[v] w (RetSE y w)) := Lib.hid (fun w h => hy ▸ shift3_calls v l w hlb h h16)
    have C4 : RowKit.Hid (∀ vx w, RdB w.heap.size w vx x → Calls Try.prog 46 #[vx] w (RetSE l w)) := Lib.hid (fun vx w h => by
      have h2 := shift3_calls vx x w hxb h hxl
      rwa [hxz] at h2)
    have D1 : RowKit.Hid (∀ w, RdB w.heap.size w v l → Calls Try.prog 47 #[v, .int .i64 1] w (RetS x w)) := Lib.hid (fun w h => hx ▸ rshift_calls v l 1 rfl (.inl rfl) w hlb h h16)
    have D3 : RowKit.Hid (∀ w, RdB w.heap.size w v l → Calls Try.prog 47 #[v, .int .i64 3] w (RetS y w)) := Lib.hid (fun w h => hy ▸ rshift_calls v l 3 rfl (.inr rfl) w hlb h h16)
    have QX := same_true x (by omega)
    have QY := same_true y (by omega)
    have QL := same_true l hl
    have H16 := Lib.hid h16
    have HXL := Lib.hid hxl
    have HYL := Lib.hid hyl
    clear hx hy hxz h16 hxl hyl
    go_enter Try.func8, Try.ntmps8
    go_wp2_with (first
      | (go_at_call 45; refine (C1.out _ hr).mono ?_; rintro e w1 ⟨vx, rfl, hx1, hb1⟩; have hr1 := hr.next hb1)
      | (go_at_call 46; (with_reducible refine (C3.out _ hr1).mono ?_); rintro e w2 ⟨vy, rfl, hy2, hb2⟩; have hr2 := hr1.next hb2; have hx2 := (RdB.of_own hx1).next hb2)
      | (refine wpList_lenB hr2 rfl rfl rfl ?_)
      | (go_at_call 46; (with_reducible refine (C4.out _ _ hx2).mono ?_); rintro e w3 ⟨vz, rfl, hz3, hb3⟩; have hr3 := hr2.next hb3; have hx3 := hx2.next hb3; have hy3 := (RdB.of_own hy2).next hb3)
      | (go_at_call 47; (with_reducible refine (D1.out _ hr3).mono ?_); rintro e w4 ⟨v4, rfl, ho4, hb4⟩)
      | (go_at_call 43; (with_reducible refine (QX.out _ _ _ (hx3.next hb4) (RdB.of_own ho4)).mono ?_); rintro e w5 ⟨rfl, hb5⟩; have hr5 := (hr3.next hb4).next hb5; have hy5 := (hy3.next hb4).next hb5; have hz5 := ((RdB.of_own hz3).next hb4).next hb5)
      | (go_at_call 47; (with_reducible refine (D3.out _ hr5).mono ?_); rintro e w6 ⟨v6, rfl, ho6, hb6⟩)
      | (go_at_call 43; (with_reducible refine (QY.out _ _ _ (hy5.next hb6) (RdB.of_own ho6)).mono ?_); rintro e w7 ⟨rfl, hb7⟩; have hr7 := (hr5.next hb6).next hb7; have hz7 := (hz5.next hb6).next hb7)
      | (go_at_call 43; (with_reducible refine (QL.out _ _ _ hz7 hr7).mono ?_); rintro e w8 ⟨rfl, hb8⟩)
      | (go_at_call 38; refine (awake07 _).mono ?_; rintro e w9 ⟨rfl, hb9⟩))
    go_ret
    have s1 := hb1.size
    have s2 := hb2.size
    have s3 := hb3.size
    have s4 := hb4.size
    have s5 := hb5.size
    have s6 := hb6.size
    have s7 := hb7.size
    have s8 := hb8.size
    exact RetB.mk rfl (hb1.trans ((hb2.mono (by omega)).trans ((hb3.mono (by omega)).trans ((hb4.mono (by omega)).trans ((hb5.mono (by omega)).trans ((hb6.mono (by omega)).trans ((hb7.mono (by omega)).trans ((hb8.mono (by omega)).trans (hb9.mono (by omega))))))))))
  · have b16 : ((l.length : Int) != 16) = true := by simp; omega
    have C1 : RowKit.Hid (∀ w, RdB w.heap.size w v l → Calls Try.prog 45 #[v] w (RetE 2 w)) := Lib.hid (fun w h => shift1_short v l w h h16)
    have C3 : RowKit.Hid (∀ w, RdB w.heap.size w v l → Calls Try.prog 46 #[v] w (RetE 2 w)) := Lib.hid (fun w h => shift3_short v l w h h16)
    have H16 := Lib.hid h16
    clear h16
    go_enter Try.func8, Try.ntmps8
    go_wp2_with (first
      | (go_at_call 45; refine (C1.out _ hr).mono ?_; rintro e w1 ⟨rfl, hb1⟩; have hr1 := hr.next hb1)
      | (go_at_call 46; refine (C3.out _ hr1).mono ?_; rintro e w2 ⟨rfl, hb2⟩; have hr2 := hr1.next hb2)
      | (refine wpList_lenB hr2 rfl rfl rfl ?_)
      | (go_at_call 38; refine (awake07 _).mono ?_; rintro e w9 ⟨rfl, hb9⟩))
    go_ret
    have s1 := hb1.size
    have s2 := hb2.size
    exact RetB.mk rfl (hb1.trans ((hb2.mono (by omega)).trans (hb9.mono (by omega))))
end Go.Proofs.Ytfinekmegiengaa
