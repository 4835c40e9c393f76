/- The walks of the laws XtsEncrypts, XtsDecrypts. -/
import Derived.Test.YtfinekmegiengaaL09
namespace Go.Proofs.Ytfinekmegiengaa
open Go.RowKit Nep
set_option maxRecDepth 100000
set_option linter.unusedVariables false
set_option linter.unusedSimpArgs false
set_option maxHeartbeats 1000000
attribute [local go_sem ↓] Go.wp_at_zero Go.wp_at_succ

theorem row3 {w : World} {g : Nat} {t : TypeId} {v1 v2 v3 : Value} (h : Row w g t #[v1, v2, v3]) : w.cell? ⟨g, 0, none⟩ = some v1 ∧ w.cell? ⟨g, 1, none⟩ = some v2 ∧ w.cell? ⟨g, 2, none⟩ = some v3 := ⟨h.cell rfl, h.cell rfl, h.cell rfl⟩
theorem row3_up {w : World} {g : Nat} {t : TypeId} {v1 v2 v3 : Value} (h : Row w g t #[v1, v2, v3]) :
    (∀ w', Below w.heap.size w.drew w' → w'.cell? ⟨g, 0, none⟩ = some v1) ∧ (∀ w', Below w.heap.size w.drew w' → w'.cell? ⟨g, 1, none⟩ = some v2) ∧ (∀ w', Below w.heap.size w.drew w' → w'.cell? ⟨g, 2, none⟩ = some v3) := by
  have up : ∀ {p : Addr} {x : Value}, w.cell? p = some x → p.block < w.heap.size → ∀ w', Below w.heap.size w.drew w' → w'.cell? p = some x := fun hc hp w' hb => (hb.cell hp).trans hc
  exact ⟨up (h.cell rfl) h.lt, up (h.cell rfl) h.lt, up (h.cell rfl) h.lt⟩
theorem same_true (a : List Nat) (h : a.length ≤ 140737488351232) : RowKit.Hid (∀ va vb w, RdB w.heap.size w va a → RdB w.heap.size w vb a → Calls Try.prog 43 #[va, vb] w (RetB (.bool true) w)) := Lib.hid (fun va vb w h1 h2 => by
  have h := same_calls va vb a a w h1 h2 h
  rwa [decide_eq_true rfl] at h)
theorem Below.drewn {w w' : World} (h : Below w.heap.size w.drew w') : Below w.heap.size w w' := (Below.refl _ _).drew.trans h

theorem xtsEncrypts_walk (v1 v2 v3 v4 : Value) (kd kt t l : List Nat) (w : World) (hkd : Bytes kd) (hkt : Bytes kt) (htb : Bytes t) (hlb : Bytes l) (h1 : RdB w.heap.size w v1 kd) (h2 : RdB w.heap.size w v2 kt) (h3 : RdB w.heap.size w v3 t) (h4 : RdB w.heap.size w v4 l)
    (hn4 : l.length ≤ 140737488351232) :
    Calls Try.prog 13 #[.agg #[v1, v2, v3], v4] w (RetB (.bool true) w) := by
  have B := Below.refl w.heap.size w
  obtain ⟨va, hva⟩ : ∃ va, va = Value.agg #[v1, v2, v3] := ⟨_, rfl⟩
  rw [← hva]
  have HVA := Lib.hid hva
  clear hva
  by_cases hbig : 200 < l.length ∧ l.length ≤ 4096
  · obtain ⟨hb1, hb2⟩ := hbig
    go_enter Try.func13, Try.ntmps13
    go_wp2_with (first
      | (apply wpList_boxR va; rfl; rfl; rfl; intro gk w1 hgk1 hgk2 hrk hbk)
      | (refine wpList_lenB (h4.mono hbk) rfl rfl rfl ?_)
      | (go_at_call 54; refine (awake09 _).mono ?_; rintro e w' ⟨rfl, hb⟩))
    go_ret
    exact RetB.mk rfl (hbk.trans (hb.mono hbk.size))
  · by_cases hok : XOk kd kt t l
    · have hl200 : l.length ≤ 200 := by
        obtain ⟨_, _, _, _, h5, _⟩ := hok
        omega
      have hok0 := hok
      obtain ⟨hd32, ht32, ht16, h16, h4096, hm16⟩ := hok0
      obtain ⟨y, hy⟩ : ∃ y, y = xtsN (encE kd) (encE kt t) l (l.length / 16) := ⟨_, rfl⟩
      have hm := encE_blocks kt ht32 hkt t ht16 htb
      have hyl : y.length = 16 * (l.length / 16) := by rw [hy]; exact (xtsN_blk (encE_blocks kd hd32 hkd) hm.1 hm.2 (n := l.length / 16) (by omega) hlb _ (by omega)).1
      have CN : RowKit.Hid (∀ w, RdB w.heap.size w v1 kd → RdB w.heap.size w v2 kt → Calls Try.prog 55 #[v1, v2] w (RetC (flatL kd) (flatL kt) w)) := Lib.hid (fun w a b => xnew_calls v1 v2 kd kt w hkd hkt a b hd32 ht32)
      have CE : RowKit.Hid (∀ p w, CipherAt w.heap.size w p (flatL kd) (flatL kt) → RdB w.heap.size w v3 t → RdB w.heap.size w v4 l → Calls Try.prog 56 #[p, v3, v4] w (RetSE y w)) := Lib.hid (fun p w c a b => hy ▸ xenc_calls p v3 v4 kd kt t l w hd32 hkd ht32 hkt c htb a ht16 hlb b ⟨h16, h4096, hm16⟩)
      have CR : RowKit.Hid (∀ w, RdB w.heap.size w v1 kd → RdB w.heap.size w v2 kt → RdB w.heap.size w v3 t → RdB w.heap.size w v4 l → Calls Try.prog 57 #[v1, v2, v3, v4] w (RetP (.bool true) w)) := Lib.hid (fun w a b c d => rright9_yes v1 v2 v3 v4 kd kt t l w a b c d hok)
      have CF : RowKit.Hid (∀ vt w, RdB w.heap.size w v1 kd → RdB w.heap.size w v2 kt → RdB w.heap.size w v3 t → RdB w.heap.size w v4 l → RdB w.heap.size w vt sboxL → Calls Try.prog 58 #[v1, v2, v3, v4, vt] w (RetS y w)) := Lib.hid (fun vt w a b c d e => hy ▸ rxenc_calls v1 v2 v3 v4 vt kd kt t l sboxL w hkd hkt htb hlb a b c d e rfl hok)
      have CQ := same_true y (by omega)
      generalize flatL kd = ra at *
      generalize flatL kt = rb at *
      clear hd32 ht32 ht16 h16 h4096 hm16 hok hbig hm hyl hy
      go_enter Try.func13, Try.ntmps13
      go_wp2_with (first
        | (apply wpList_boxR va; rfl; rfl; rfl; intro gk w1 hgk1 hgk2 hrk hbk; rw [HVA.out] at hrk; obtain ⟨c0, c1, c2⟩ := row3 hrk; have a1 := h1.next hbk; have a2 := h2.next hbk; have a3 := h3.next hbk; have a4 := h4.next hbk)
        | (refine wpList_lenB a4 rfl rfl rfl ?_)
        | (go_at_call 55; refine (CN.out _ a1 a2).mono ?_; rintro e w2 ⟨p, rfl, hc2, hb2⟩; have hrk2 := hrk.next hb2; obtain ⟨c02, c12, c22⟩ := row3 hrk2; have b1 := a1.next hb2; have b2 := a2.next hb2; have b3 := a3.next hb2; have b4 := a4.next hb2)
        | (go_at_call 56; refine (CE.out _ _ hc2 b3 b4).mono ?_; rintro e w3 ⟨vx, rfl, hx3, hb3⟩; have hrk3 := hrk2.next hb3; obtain ⟨c03, c13, c23⟩ := row3 hrk3; have d1 := b1.next hb3; have d2 := b2.next hb3; have d3 := b3.next hb3; have d4 := b4.next hb3)
        | (go_at_call 57; refine (CR.out _ d1 d2 d3 d4).mono ?_; rintro e w4 ⟨rfl, rfl⟩))
      obtain ⟨K0, K1, K2⟩ := row3_up hrk3
      have s2 := hb2.size
      have s3 := hb3.size
      have hb13 : Below w.heap.size w w3 := hbk.trans ((hb2.mono hbk.size).trans (hb3.mono (Nat.le_trans hbk.size s2)))
      clear c0 c1 c2 c02 c12 c22 c03 c13 c23
      go_region_held3 (fun w' => Below w3.heap.size w3.drew w')
        (first | exact Below.refl _ _ | exact (‹Below _ w3.drew _›).trans (hb8.mono (‹Below _ w3.drew _›).size) | exact (‹Below _ w3.drew _›).trans (hb7.mono (‹Below _ w3.drew _›).size) | exact (‹Below _ w3.drew _›).trans (hb6.mono (‹Below _ w3.drew _›).size) | exact (‹Below _ w3.drew _›).trans (hb5.mono (‹Below _ w3.drew _›).size))
        (first
          | (go_at_call 40; refine (rtable_calls _).mono ?_; rintro e w5 ⟨vt, rfl, ht5, hb5⟩)
          | (go_at_call 58; refine (CF.out _ _ (d1.next (Below.drewn ‹Below _ w3.drew _›)) (d2.next (Below.drewn ‹Below _ w3.drew _›)) (d3.next (Below.drewn ‹Below _ w3.drew _›)) (d4.next (Below.drewn ‹Below _ w3.drew _›)) (RdB.of_own ht5)).mono ?_; rintro e w6 ⟨v6, rfl, ho6, hb6⟩)
          | (go_at_call 43; refine (CQ.out _ _ _ ((RdB.of_own hx3).next (Below.drewn ‹Below _ w3.drew _›)) (RdB.of_own ho6)).mono ?_; rintro e w7 ⟨rfl, hb7⟩)
          | (go_at_call 54; refine (awake09 _).mono ?_; rintro e w8 ⟨rfl, hb8⟩))
      have hH := Below.drewn ‹Below _ w3.drew _›
      go_wp2_with fail
      go_ret
      exact RetB.mk rfl (hb13.trans (hH.mono hb13.size))
    · have CR : RowKit.Hid (∀ w, RdB w.heap.size w v1 kd → RdB w.heap.size w v2 kt → RdB w.heap.size w v3 t → RdB w.heap.size w v4 l → Calls Try.prog 57 #[v1, v2, v3, v4] w (RetP (.bool false) w)) := Lib.hid (fun w a b c d => rright9_no v1 v2 v3 v4 kd kt t l w a b c d hok)
      by_cases hkeys : kd.length = 32 ∧ kt.length = 32
      · have CN : RowKit.Hid (∀ w, RdB w.heap.size w v1 kd → RdB w.heap.size w v2 kt → Calls Try.prog 55 #[v1, v2] w (RetC (flatL kd) (flatL kt) w)) := Lib.hid (fun w a b => xnew_calls v1 v2 kd kt w hkd hkt a b hkeys.1 hkeys.2)
        have CE : RowKit.Hid (∀ p w, CipherAt w.heap.size w p (flatL kd) (flatL kt) → RdB w.heap.size w v3 t → RdB w.heap.size w v4 l → Calls Try.prog 56 #[p, v3, v4] w (RetE 2 w)) := Lib.hid (fun p w c a b => xenc_bad p v3 v4 l t _ _ w c a b (fun h => hok ⟨hkeys.1, hkeys.2, h.2, h.1.1, h.1.2.1, h.1.2.2⟩))
        generalize flatL kd = ra at *
        generalize flatL kt = rb at *
        clear hok
        rcases (show l.length ≤ 200 ∨ 4096 < l.length from by omega) with hl | hl
        all_goals
          clear hbig hkeys
          go_enter Try.func13, Try.ntmps13
          go_wp2_with (first
            | (apply wpList_boxR va; rfl; rfl; rfl; intro gk w1 hgk1 hgk2 hrk hbk; rw [HVA.out] at hrk; obtain ⟨c0, c1, c2⟩ := row3 hrk; have a1 := h1.next hbk; have a2 := h2.next hbk; have a3 := h3.next hbk; have a4 := h4.next hbk)
            | (refine wpList_lenB a4 rfl rfl rfl ?_)
            | (go_at_call 55; refine (CN.out _ a1 a2).mono ?_; rintro e w2 ⟨p, rfl, hc2, hb2⟩; have hrk2 := hrk.next hb2; obtain ⟨c02, c12, c22⟩ := row3 hrk2; have b1 := a1.next hb2; have b2 := a2.next hb2; have b3 := a3.next hb2; have b4 := a4.next hb2)
            | (go_at_call 56; refine (CE.out _ _ hc2 b3 b4).mono ?_; rintro e w3 ⟨rfl, hb3⟩; have hrk3 := hrk2.next hb3; obtain ⟨c03, c13, c23⟩ := row3 hrk3; have d1 := b1.next hb3; have d2 := b2.next hb3; have d3 := b3.next hb3; have d4 := b4.next hb3)
            | (go_at_call 57; refine (CR.out _ d1 d2 d3 d4).mono ?_; rintro e w4 ⟨rfl, rfl⟩)
            | (go_at_call 54; refine (awake09 _).mono ?_; rintro e w' ⟨rfl, hb⟩))
          go_ret
          have s1 := hbk.size
          have s2 := hb2.size
          have s3 := hb3.size
          exact RetB.mk rfl (hbk.trans ((hb2.mono s1).trans ((hb3.mono (by omega)).trans (hb.mono (by omega)))))
      · have CN : RowKit.Hid (∀ w, RdB w.heap.size w v1 kd → RdB w.heap.size w v2 kt → Calls Try.prog 55 #[v1, v2] w (RetPE 2 w)) := Lib.hid (fun w a b => xnew_short v1 v2 kd kt w hkd a b hkeys)
        clear hok
        rcases (show l.length ≤ 200 ∨ 4096 < l.length from by omega) with hl | hl
        all_goals
          clear hbig hkeys
          go_enter Try.func13, Try.ntmps13
          go_wp2_with (first
            | (apply wpList_boxR va; rfl; rfl; rfl; intro gk w1 hgk1 hgk2 hrk hbk; rw [HVA.out] at hrk; obtain ⟨c0, c1, c2⟩ := row3 hrk; have a1 := h1.next hbk; have a2 := h2.next hbk; have a3 := h3.next hbk; have a4 := h4.next hbk)
            | (refine wpList_lenB a4 rfl rfl rfl ?_)
            | (go_at_call 55; refine (CN.out _ a1 a2).mono ?_; rintro e w2 ⟨rfl, hb2⟩; have hrk2 := hrk.next hb2; obtain ⟨c02, c12, c22⟩ := row3 hrk2; have b1 := a1.next hb2; have b2 := a2.next hb2; have b3 := a3.next hb2; have b4 := a4.next hb2)
            | (go_at_call 56; refine (xenc_nil _ _ _).mono ?_; rintro e w3 ⟨rfl, hb3⟩; have hrk3 := hrk2.next hb3; obtain ⟨c03, c13, c23⟩ := row3 hrk3; have d1 := b1.next hb3; have d2 := b2.next hb3; have d3 := b3.next hb3; have d4 := b4.next hb3)
            | (go_at_call 57; refine (CR.out _ d1 d2 d3 d4).mono ?_; rintro e w4 ⟨rfl, rfl⟩)
            | (go_at_call 54; refine (awake09 _).mono ?_; rintro e w' ⟨rfl, hb⟩))
          go_ret
          have s1 := hbk.size
          have s2 := hb2.size
          have s3 := hb3.size
          exact RetB.mk rfl (hbk.trans ((hb2.mono s1).trans ((hb3.mono (by omega)).trans (hb.mono (by omega)))))
theorem xtsDecrypts_walk (v1 v2 v3 v4 : Value) (kd kt t l : List Nat) (w : World) (hkd : Bytes kd) (hkt : Bytes kt) (htb : Bytes t) (hlb : Bytes l) (h1 : RdB w.heap.size w v1 kd) (h2 : RdB w.heap.size w v2 kt) (h3 : RdB w.heap.size w v3 t) (h4 : RdB w.heap.size w v4 l)
    (hn4 : l.length ≤ 140737488351232) :
    Calls Try.prog 21 #[.agg #[v1, v2, v3], v4] w (RetB (.bool true) w) := by
  have B := Below.refl w.heap.size w
  obtain ⟨va, hva⟩ : ∃ va, va = Value.agg #[v1, v2, v3] := ⟨_, rfl⟩
  rw [← hva]
  have HVA := Lib.hid hva
  clear hva
  by_cases hbig : 200 < l.length ∧ l.length ≤ 4096
  · obtain ⟨hb1, hb2⟩ := hbig
    go_enter Try.func21, Try.ntmps21
    go_wp2_with (first
      | (apply wpList_boxR va; rfl; rfl; rfl; intro gk w1 hgk1 hgk2 hrk hbk)
      | (refine wpList_lenB (h4.mono hbk) rfl rfl rfl ?_)
      | (go_at_call 54; refine (awake09 _).mono ?_; rintro e w' ⟨rfl, hb⟩))
    go_ret
    exact RetB.mk rfl (hbk.trans (hb.mono hbk.size))
  · by_cases hok : XOk kd kt t l
    · have hl200 : l.length ≤ 200 := by
        obtain ⟨_, _, _, _, h5, _⟩ := hok
        omega
      have hok0 := hok
      obtain ⟨hd32, ht32, ht16, h16, h4096, hm16⟩ := hok0
      obtain ⟨y, hy⟩ : ∃ y, y = xtsN (decE kd) (encE kt t) l (l.length / 16) := ⟨_, rfl⟩
      have hm := encE_blocks kt ht32 hkt t ht16 htb
      have hyl : y.length = 16 * (l.length / 16) := by rw [hy]; exact (xtsN_blk (decE_blocks kd hd32 hkd) hm.1 hm.2 (n := l.length / 16) (by omega) hlb _ (by omega)).1
      have CN : RowKit.Hid (∀ w, RdB w.heap.size w v1 kd → RdB w.heap.size w v2 kt → Calls Try.prog 55 #[v1, v2] w (RetC (flatL kd) (flatL kt) w)) := Lib.hid (fun w a b => xnew_calls v1 v2 kd kt w hkd hkt a b hd32 ht32)
      have CE : RowKit.Hid (∀ p w, CipherAt w.heap.size w p (flatL kd) (flatL kt) → RdB w.heap.size w v3 t → RdB w.heap.size w v4 l → Calls Try.prog 73 #[p, v3, v4] w (RetSE y w)) := Lib.hid (fun p w c a b => hy ▸ xdec_calls p v3 v4 kd kt t l w hd32 hkd ht32 hkt c htb a ht16 hlb b ⟨h16, h4096, hm16⟩)
      have CR : RowKit.Hid (∀ w, RdB w.heap.size w v1 kd → RdB w.heap.size w v2 kt → RdB w.heap.size w v3 t → RdB w.heap.size w v4 l → Calls Try.prog 57 #[v1, v2, v3, v4] w (RetP (.bool true) w)) := Lib.hid (fun w a b c d => rright9_yes v1 v2 v3 v4 kd kt t l w a b c d hok)
      have CF : RowKit.Hid (∀ vt w, RdB w.heap.size w v1 kd → RdB w.heap.size w v2 kt → RdB w.heap.size w v3 t → RdB w.heap.size w v4 l → RdB w.heap.size w vt sboxL → Calls Try.prog 74 #[v1, v2, v3, v4, vt] w (RetS y w)) := Lib.hid (fun vt w a b c d e => hy ▸ rxdec_calls v1 v2 v3 v4 vt kd kt t l sboxL w hkd hkt htb hlb a b c d e rfl hok)
      have CQ := same_true y (by omega)
      generalize flatL kd = ra at *
      generalize flatL kt = rb at *
      clear hd32 ht32 ht16 h16 h4096 hm16 hok hbig hm hyl hy
      go_enter Try.func21, Try.ntmps21
      go_wp2_with (first
        | (apply wpList_boxR va; rfl; rfl; rfl; intro gk w1 hgk1 hgk2 hrk hbk; rw [HVA.out] at hrk; obtain ⟨c0, c1, c2⟩ := row3 hrk; have a1 := h1.next hbk; have a2 := h2.next hbk; have a3 := h3.next hbk; have a4 := h4.next hbk)
        | (refine wpList_lenB a4 rfl rfl rfl ?_)
        | (go_at_call 55; refine (CN.out _ a1 a2).mono ?_; rintro e w2 ⟨p, rfl, hc2, hb2⟩; have hrk2 := hrk.next hb2; obtain ⟨c02, c12, c22⟩ := row3 hrk2; have b1 := a1.next hb2; have b2 := a2.next hb2; have b3 := a3.next hb2; have b4 := a4.next hb2)
        | (go_at_call 73; refine (CE.out _ _ hc2 b3 b4).mono ?_; rintro e w3 ⟨vx, rfl, hx3, hb3⟩; have hrk3 := hrk2.next hb3; obtain ⟨c03, c13, c23⟩ := row3 hrk3; have d1 := b1.next hb3; have d2 := b2.next hb3; have d3 := b3.next hb3; have d4 := b4.next hb3)
        | (go_at_call 57; refine (CR.out _ d1 d2 d3 d4).mono ?_; rintro e w4 ⟨rfl, rfl⟩))
      obtain ⟨K0, K1, K2⟩ := row3_up hrk3
      have s2 := hb2.size
      have s3 := hb3.size
      have hb13 : Below w.heap.size w w3 := hbk.trans ((hb2.mono hbk.size).trans (hb3.mono (Nat.le_trans hbk.size s2)))
      clear c0 c1 c2 c02 c12 c22 c03 c13 c23
      go_region_held3 (fun w' => Below w3.heap.size w3.drew w')
        (first | exact Below.refl _ _ | exact (‹Below _ w3.drew _›).trans (hb8.mono (‹Below _ w3.drew _›).size) | exact (‹Below _ w3.drew _›).trans (hb7.mono (‹Below _ w3.drew _›).size) | exact (‹Below _ w3.drew _›).trans (hb6.mono (‹Below _ w3.drew _›).size) | exact (‹Below _ w3.drew _›).trans (hb5.mono (‹Below _ w3.drew _›).size))
        (first
          | (go_at_call 40; refine (rtable_calls _).mono ?_; rintro e w5 ⟨vt, rfl, ht5, hb5⟩)
          | (go_at_call 74; refine (CF.out _ _ (d1.next (Below.drewn ‹Below _ w3.drew _›)) (d2.next (Below.drewn ‹Below _ w3.drew _›)) (d3.next (Below.drewn ‹Below _ w3.drew _›)) (d4.next (Below.drewn ‹Below _ w3.drew _›)) (RdB.of_own ht5)).mono ?_; rintro e w6 ⟨v6, rfl, ho6, hb6⟩)
          | (go_at_call 43; refine (CQ.out _ _ _ ((RdB.of_own hx3).next (Below.drewn ‹Below _ w3.drew _›)) (RdB.of_own ho6)).mono ?_; rintro e w7 ⟨rfl, hb7⟩)
          | (go_at_call 54; refine (awake09 _).mono ?_; rintro e w8 ⟨rfl, hb8⟩))
      have hH := Below.drewn ‹Below _ w3.drew _›
      go_wp2_with fail
      go_ret
      exact RetB.mk rfl (hb13.trans (hH.mono hb13.size))
    · have CR : RowKit.Hid (∀ w, RdB w.heap.size w v1 kd → RdB w.heap.size w v2 kt → RdB w.heap.size w v3 t → RdB w.heap.size w v4 l → Calls Try.prog 57 #[v1, v2, v3, v4] w (RetP (.bool false) w)) := Lib.hid (fun w a b c d => rright9_no v1 v2 v3 v4 kd kt t l w a b c d hok)
      by_cases hkeys : kd.length = 32 ∧ kt.length = 32
      · have CN : RowKit.Hid (∀ w, RdB w.heap.size w v1 kd → RdB w.heap.size w v2 kt → Calls Try.prog 55 #[v1, v2] w (RetC (flatL kd) (flatL kt) w)) := Lib.hid (fun w a b => xnew_calls v1 v2 kd kt w hkd hkt a b hkeys.1 hkeys.2)
        have CE : RowKit.Hid (∀ p w, CipherAt w.heap.size w p (flatL kd) (flatL kt) → RdB w.heap.size w v3 t → RdB w.heap.size w v4 l → Calls Try.prog 73 #[p, v3, v4] w (RetE 2 w)) := Lib.hid (fun p w c a b => xdec_bad p v3 v4 l t _ _ w c a b (fun h => hok ⟨hkeys.1, hkeys.2, h.2, h.1.1, h.1.2.1, h.1.2.2⟩))
        generalize flatL kd = ra at *
        generalize flatL kt = rb at *
        clear hok
        rcases (show l.length ≤ 200 ∨ 4096 < l.length from by omega) with hl | hl
        all_goals
          clear hbig hkeys
          go_enter Try.func21, Try.ntmps21
          go_wp2_with (first
            | (apply wpList_boxR va; rfl; rfl; rfl; intro gk w1 hgk1 hgk2 hrk hbk; rw [HVA.out] at hrk; obtain ⟨c0, c1, c2⟩ := row3 hrk; have a1 := h1.next hbk; have a2 := h2.next hbk; have a3 := h3.next hbk; have a4 := h4.next hbk)
            | (refine wpList_lenB a4 rfl rfl rfl ?_)
            | (go_at_call 55; refine (CN.out _ a1 a2).mono ?_; rintro e w2 ⟨p, rfl, hc2, hb2⟩; have hrk2 := hrk.next hb2; obtain ⟨c02, c12, c22⟩ := row3 hrk2; have b1 := a1.next hb2; have b2 := a2.next hb2; have b3 := a3.next hb2; have b4 := a4.next hb2)
            | (go_at_call 73; refine (CE.out _ _ hc2 b3 b4).mono ?_; rintro e w3 ⟨rfl, hb3⟩; have hrk3 := hrk2.next hb3; obtain ⟨c03, c13, c23⟩ := row3 hrk3; have d1 := b1.next hb3; have d2 := b2.next hb3; have d3 := b3.next hb3; have d4 := b4.next hb3)
            | (go_at_call 57; refine (CR.out _ d1 d2 d3 d4).mono ?_; rintro e w4 ⟨rfl, rfl⟩)
            | (go_at_call 54; refine (awake09 _).mono ?_; rintro e w' ⟨rfl, hb⟩))
          go_ret
          have s1 := hbk.size
          have s2 := hb2.size
          have s3 := hb3.size
          exact RetB.mk rfl (hbk.trans ((hb2.mono s1).trans ((hb3.mono (by omega)).trans (hb.mono (by omega)))))
      · have CN : RowKit.Hid (∀ w, RdB w.heap.size w v1 kd → RdB w.heap.size w v2 kt → Calls Try.prog 55 #[v1, v2] w (RetPE 2 w)) := Lib.hid (fun w a b => xnew_short v1 v2 kd kt w hkd a b hkeys)
        clear hok
        rcases (show l.length ≤ 200 ∨ 4096 < l.length from by omega) with hl | hl
        all_goals
          clear hbig hkeys
          go_enter Try.func21, Try.ntmps21
          go_wp2_with (first
            | (apply wpList_boxR va; rfl; rfl; rfl; intro gk w1 hgk1 hgk2 hrk hbk; rw [HVA.out] at hrk; obtain ⟨c0, c1, c2⟩ := row3 hrk; have a1 := h1.next hbk; have a2 := h2.next hbk; have a3 := h3.next hbk; have a4 := h4.next hbk)
            | (refine wpList_lenB a4 rfl rfl rfl ?_)
            | (go_at_call 55; refine (CN.out _ a1 a2).mono ?_; rintro e w2 ⟨rfl, hb2⟩; have hrk2 := hrk.next hb2; obtain ⟨c02, c12, c22⟩ := row3 hrk2; have b1 := a1.next hb2; have b2 := a2.next hb2; have b3 := a3.next hb2; have b4 := a4.next hb2)
            | (go_at_call 73; refine (xdec_nil _ _ _).mono ?_; rintro e w3 ⟨rfl, hb3⟩; have hrk3 := hrk2.next hb3; obtain ⟨c03, c13, c23⟩ := row3 hrk3; have d1 := b1.next hb3; have d2 := b2.next hb3; have d3 := b3.next hb3; have d4 := b4.next hb3)
            | (go_at_call 57; refine (CR.out _ d1 d2 d3 d4).mono ?_; rintro e w4 ⟨rfl, rfl⟩)
            | (go_at_call 54; refine (awake09 _).mono ?_; rintro e w' ⟨rfl, hb⟩))
          go_ret
          have s1 := hbk.size
          have s2 := hb2.size
          have s3 := hb3.size
          exact RetB.mk rfl (hbk.trans ((hb2.mono s1).trans ((hb3.mono (by omega)).trans (hb.mono (by omega)))))
end Go.Proofs.Ytfinekmegiengaa
