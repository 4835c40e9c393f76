/- The walk of the law AesExpands. -/
import Derived.Test.YtfinekmegiengaaL07s
namespace Go.Proofs.Ytfinekmegiengaa
open Go.RowKit Nep
set_option maxRecDepth 100000
set_option linter.unusedVariables false
set_option linter.unusedSimpArgs false
set_option maxHeartbeats 1000000

theorem aesExpands_walk (v : Value) (key : List Nat) (w : World) (hkb : Bytes key) (hr : RdB w.heap.size w v key) (hk : key.length ≤ 140737488351232) :
    Calls Try.prog 6 #[v] w (RetB (.bool true) w) := by
  by_cases h32 : key.length = 32
  · have b32 : ((key.length : Int) != 32) = false := by rw [h32]; rfl
    obtain ⟨W, hW⟩ : ∃ W, W = expL key 60 := ⟨_, rfl⟩
    obtain ⟨ws, hws⟩ : ∃ ws, ws = wsL key := ⟨_, rfl⟩
    have hWl : W.length = 60 := by rw [hW, expL_length]
    have hwl : ws.length = 60 := by rw [hws, wsL_length]
    have hW4 : ∀ i, i < 60 → Word4 (W.getD i []) := fun i hi => by rw [hW]; exact expL_at key h32 hkb i hi
    have hwW : ∀ i, i < 60 → ws.getD i 0 = num (W.getD i []) := fun i hi => by rw [hW, hws]; exact wsL_get key i hi
    have CE : RowKit.Hid (∀ w, RdB w.heap.size w v key → Calls Try.prog 36 #[v] w (RetWE ws w)) := Lib.hid (fun w h => hws ▸ expand_calls v key w hkb h h32)
    have CN : RowKit.Hid (∀ w, RdB w.heap.size w v key → Calls Try.prog 37 #[v] w (RetK (flatL key) w)) := Lib.hid (fun w h => new_calls v key w hkb h h32)
    have CR : RowKit.Hid (∀ vt w, RdB w.heap.size w v key → RdB w.heap.size w vt sboxL → Calls Try.prog 39 #[v, vt] w (RetL W w)) := Lib.hid (fun vt w h1 h3 => hW ▸ rexpand_calls v vt key sboxL w hkb h1 h32 h3 rfl)
    have HWL := Lib.hid hWl
    have HwL := Lib.hid hwl
    have HW4 := Lib.hid hW4
    have HWW := Lib.hid hwW
    have h60 : ((ws.length : Int) != 60) = false := by rw [hwl]; rfl
    generalize flatL key = rk at *
    clear hW hws hWl hwl hW4 hwW h32
    go_enter Try.func6, Try.ntmps6
    go_wp2_with (first
      | (go_at_call 36; refine (CE.out _ hr).mono ?_; rintro e w1 ⟨vw, rfl, hw1, hb1⟩; have hr1 := hr.next hb1)
      | (go_at_call 37; refine (CN.out _ hr1).mono ?_; rintro e w2 ⟨p, rfl, hk2, hb2⟩; have hr2 := hr1.next hb2)
      | (refine wpList_lenB hr2 rfl rfl rfl ?_)
      | (go_at_call 40; refine (rtable_calls _).mono ?_; rintro e w3 ⟨vt, rfl, ht3, hb3⟩)
      | (go_at_call 39; refine (CR.out _ _ (hr2.next hb3) (RdB.of_own ht3)).mono ?_; rintro e w4 ⟨vl, rfl, hl4, hb4⟩; have hw4 := (((RdW.of_own hw1).next hb2).next hb3).next hb4)
      | (refine wpList_lenW hw4 rfl rfl rfl ?_))
    have s1 := hb1.size
    have s2 := hb2.size
    have s3 := hb3.size
    have hbb := hb1.trans ((hb2.mono (by omega)).trans ((hb3.mono (by omega)).trans (hb4.mono (by omega))))
    have hL4 := hl4.rd
    clear hr hr1 hr2 hw1 hk2 hb1 hb2 hb3 hb4 ht3 hl4 s1 s2 s3
    go_loopw [8] (fun i wr => ∃ k : Nat, k ≤ 60 ∧ i = .int .i64 k ∧ Below w4.heap.size w4 wr) (fun i _ => 60 - (intOf i).toNat)
    case atStart => exact ⟨0, by omega, rfl, Below.refl _ _⟩
    case round =>
      obtain ⟨k, hk', rfl, hbk⟩ := hrel
      have hbs := hbk.size
      by_cases hlt : k < 60
      · obtain ⟨adw, cw, rfl, hBw, _, hcw⟩ := (hw4.next hbk).at (k := k) (by have := HwL.out; omega)
        obtain ⟨adl, cl, y, rfl, hBl, hcl, hry⟩ := (hL4.next hbk).at (k := k) (by have := HWL.out; omega)
        have h4 := HW4.out k hlt
        rw [HWW.out k hlt] at hcw
        obtain ⟨x, hx⟩ : ∃ x, x = W.getD k [] := ⟨_, rfl⟩
        rw [← hx] at h4 hcw hry
        obtain ⟨n, hn⟩ : ∃ n, n = num x := ⟨_, rfl⟩
        have hn32 : n < 4294967296 := by rw [hn]; exact h4.num_lt
        obtain ⟨m, hm⟩ : ∃ m, m = n := ⟨_, rfl⟩
        have C : RowKit.Hid (∀ va w, RdB w.heap.size w va x → Calls Try.prog 41 #[va] w (RetB (.int .u64 m) w)) := Lib.hid (fun va w h => hm ▸ hn ▸ rnum_calls va x w h4.2 h (by rw [h4.1]; omega))
        rw [← hn] at hcw
        have hlw : (k : Int) < (ws.length : Int) := by have := HwL.out; omega
        have hll : (k : Int) < (W.length : Int) := by have := HWL.out; omega
        have hk0 : (0 : Int) ≤ (k : Int) := by omega
        have up : ∀ {p : Addr} {x : Value}, wr.cell? p = some x → p.block < wr.heap.size → ∀ w', Below wr.heap.size wr.drew w' → w'.cell? p = some x := fun hc hp w' hb => (hb.cell hp).trans hc
        have K1 := up hcw (by rw [blk_add]; exact hBw)
        have K2 := up hcl (by rw [blk_add]; exact hBl)
        have HRY : RowKit.Hid (∀ w', Below wr.heap.size wr.drew w' → RdB w'.heap.size w' y x) := Lib.hid (fun w' hb => RdB.next hry ((Below.refl _ _).drew.trans hb))
        have hS0 := Below.refl wr.heap.size wr.drew
        have hnn : ((n : Int) != (m : Int)) = false := by rw [hm]; simp
        have hwz : IntKind.u64.wrap (n : Int) = (n : Int) := by rw [IntKind.wrap_u64]; omega
        clear up hcw hcl hry hn hx h4 hw4 hL4 hm
        go_wp2_with fail
        go_region_held3 (fun w' => Below wr.heap.size wr.drew w')
          (first | exact Below.refl _ _ | exact (‹Below _ wr.drew _›).trans (hb5.mono (‹Below _ wr.drew _›).size) | assumption)
          (first | (go_at_call 41; refine (C.out _ _ (HRY.out _ ‹Below _ wr.drew _›)).mono ?_; rintro e w5 ⟨rfl, hb5⟩))
        have hH := (Below.refl wr.heap.size wr).drew.trans (‹Below _ wr.drew _›)
        go_wp2_with fail
        go_roundw
        case rel => exact ⟨k + 1, by omega, by go_num, hbk.trans (hH.mono hbs)⟩
        case measure => simp [intOf]; omega
      · go_wp2_with (first | (go_at_call 38; refine (awake07 _).mono ?_; rintro e w9 ⟨rfl, hb9⟩))
        go_ret
        have s4 := hbb.size
        exact RetB.mk rfl (hbb.trans ((hbk.mono s4).trans (hb9.mono (Nat.le_trans s4 hbs))))
  · have b32 : ((key.length : Int) != 32) = true := by simp; omega
    have CE : RowKit.Hid (∀ w, RdB w.heap.size w v key → Calls Try.prog 36 #[v] w (RetE 2 w)) := Lib.hid (fun w h => expand_short v key w h h32)
    have CN : RowKit.Hid (∀ w, RdB w.heap.size w v key → Calls Try.prog 37 #[v] w (RetPE 2 w)) := Lib.hid (fun w h => new_short v key w h h32)
    have H32 := Lib.hid h32
    clear h32
    go_enter Try.func6, Try.ntmps6
    go_wp2_with (first
      | (go_at_call 36; refine (CE.out _ hr).mono ?_; rintro e w1 ⟨rfl, hb1⟩; have hr1 := hr.next hb1)
      | (go_at_call 37; refine (CN.out _ hr1).mono ?_; rintro e w2 ⟨rfl, hb2⟩; have hr2 := hr1.next hb2)
      | (refine wpList_lenB hr2 rfl rfl rfl ?_)
      | (go_at_call 38; refine (awake07 _).mono ?_; rintro e w9 ⟨rfl, hb9⟩))
    go_ret
    have s1 := hb1.size
    have s2 := hb2.size
    exact RetB.mk rfl (hb1.trans ((hb2.mono (by omega)).trans (hb9.mono (by omega))))
end Go.Proofs.Ytfinekmegiengaa
