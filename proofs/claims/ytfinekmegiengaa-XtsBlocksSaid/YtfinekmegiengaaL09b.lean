/- The walks of the laws XtsBack, XtsBlocks. -/
import Derived.Test.YtfinekmegiengaaL09e
namespace Go.Proofs.Ytfinekmegiengaa
open Go.RowKit Nep
set_option maxRecDepth 100000
set_option linter.unusedVariables false
set_option linter.unusedSimpArgs false
set_option maxHeartbeats 1000000
attribute [local go_sem ↓] Go.wp_at_zero Go.wp_at_succ

theorem xtsBack_walk (v1 v2 v3 v4 : Value) (kd kt t l : List Nat) (w : World) (hkd : Bytes kd) (hkt : Bytes kt) (htb : Bytes t) (hlb : Bytes l) (h1 : RdB w.heap.size w v1 kd) (h2 : RdB w.heap.size w v2 kt) (h3 : RdB w.heap.size w v3 t) (h4 : RdB w.heap.size w v4 l)
    (hn4 : l.length ≤ 140737488351232) :
    Calls Try.prog 22 #[.agg #[v1, v2, v3], v4] w (RetB (.bool true) w) := by
  obtain ⟨va, hva⟩ : ∃ va, va = Value.agg #[v1, v2, v3] := ⟨_, rfl⟩
  rw [← hva]
  have HVA := Lib.hid hva
  clear hva
  by_cases hok : XOk kd kt t l
  · have CR : RowKit.Hid (∀ w, RdB w.heap.size w v1 kd → RdB w.heap.size w v2 kt → RdB w.heap.size w v3 t → RdB w.heap.size w v4 l → Calls Try.prog 57 #[v1, v2, v3, v4] w (RetP (.bool true) w)) := Lib.hid (fun w a b c d => rright9_yes v1 v2 v3 v4 kd kt t l w a b c d hok)
    obtain ⟨hd32, ht32, ht16, h16, h4096, hm16⟩ := hok
    by_cases hbig : 600 < l.length
    · clear hd32 ht32 ht16 h16 h4096 hm16
      go_enter Try.func22, Try.ntmps22
      go_wp2_with (first
        | (apply wpList_boxR va; rfl; rfl; rfl; intro gk w1 hgk1 hgk2 hrk hbk; rw [HVA.out] at hrk; obtain ⟨c0, c1, c2⟩ := row3 hrk; have a1 := h1.next hbk; have a2 := h2.next hbk; have a3 := h3.next hbk; have a4 := h4.next hbk)
        | (refine wpList_lenB a4 rfl rfl rfl ?_)
        | (go_at_call 57; refine (CR.out _ a1 a2 a3 a4).mono ?_; rintro e w4 ⟨rfl, rfl⟩)
        | (go_at_call 54; refine (awake09 _).mono ?_; rintro e w' ⟨rfl, hb⟩))
      go_ret
      exact RetB.mk rfl (hbk.trans (hb.mono hbk.size))
    · obtain ⟨n, hn⟩ : ∃ n, n = l.length / 16 := ⟨_, rfl⟩
      have hln : l.length = 16 * n := by omega
      obtain ⟨m, hm⟩ : ∃ m, m = encE kt t := ⟨_, rfl⟩
      have hmb := encE_blocks kt ht32 hkt t ht16 htb
      rw [← hm] at hmb
      have hE := encE_blocks kd hd32 hkd
      have hD := decE_blocks kd hd32 hkd
      obtain ⟨x, hx⟩ : ∃ x, x = xtsN (encE kd) m l n := ⟨_, rfl⟩
      obtain ⟨u, hu⟩ : ∃ u, u = xtsN (decE kd) m l n := ⟨_, rfl⟩
      have hxb := xtsN_blk hE hmb.1 hmb.2 hln hlb n (Nat.le_refl _)
      have hub := xtsN_blk hD hmb.1 hmb.2 hln hlb n (Nat.le_refl _)
      have hxl : xtsN (decE kd) m x n = l := by rw [hx]; exact xts_back hE (decE_encE kd hd32 hkd) hmb.1 hmb.2 hln hlb
      have hul : xtsN (encE kd) m u n = l := by rw [hu]; exact xts_back hD (encE_decE kd hd32 hkd) hmb.1 hmb.2 hln hlb
      rw [← hx] at hxb
      rw [← hu] at hub
      have hxn : x.length / 16 = n := by omega
      have hun : u.length / 16 = n := by omega
      have CN : RowKit.Hid (∀ w, RdB w.heap.size w v1 kd → RdB w.heap.size w v2 kt → Calls Try.prog 55 #[v1, v2] w (RetC (flatL kd) (flatL kt) w)) := Lib.hid (fun w a b => xnew_calls v1 v2 kd kt w hkd hkt a b hd32 ht32)
      have C1 : RowKit.Hid (∀ p va w, CipherAt w.heap.size w p (flatL kd) (flatL kt) → RdB w.heap.size w v3 t → RdB w.heap.size w va l → Calls Try.prog 56 #[p, v3, va] w (RetSE x w)) := Lib.hid (fun p va w c a b => by
        have h := xenc_calls p v3 va kd kt t l w hd32 hkd ht32 hkt c htb a ht16 hlb b ⟨h16, h4096, hm16⟩
        rwa [← hn, ← hm, ← hx] at h)
      have C2 : RowKit.Hid (∀ p va w, CipherAt w.heap.size w p (flatL kd) (flatL kt) → RdB w.heap.size w v3 t → RdB w.heap.size w va x → Calls Try.prog 73 #[p, v3, va] w (RetSE l w)) := Lib.hid (fun p va w c a b => by
        have h := xdec_calls p v3 va kd kt t x w hd32 hkd ht32 hkt c htb a ht16 hxb.2 b ⟨by omega, by omega, by omega⟩
        rwa [hxn, ← hm, hxl] at h)
      have C3 : RowKit.Hid (∀ p va w, CipherAt w.heap.size w p (flatL kd) (flatL kt) → RdB w.heap.size w v3 t → RdB w.heap.size w va l → Calls Try.prog 73 #[p, v3, va] w (RetSE u w)) := Lib.hid (fun p va w c a b => by
        have h := xdec_calls p v3 va kd kt t l w hd32 hkd ht32 hkt c htb a ht16 hlb b ⟨h16, h4096, hm16⟩
        rwa [← hn, ← hm, ← hu] at h)
      have C4 : RowKit.Hid (∀ p va w, CipherAt w.heap.size w p (flatL kd) (flatL kt) → RdB w.heap.size w v3 t → RdB w.heap.size w va u → Calls Try.prog 56 #[p, v3, va] w (RetSE l w)) := Lib.hid (fun p va w c a b => by
        have h := xenc_calls p v3 va kd kt t u w hd32 hkd ht32 hkt c htb a ht16 hub.2 b ⟨by omega, by omega, by omega⟩
        rwa [hun, ← hm, hul] at h)
      have QL := same_true l hn4
      generalize flatL kd = ra at *
      generalize flatL kt = rb at *
      clear hd32 ht32 ht16 h16 h4096 hm16 hn hln hm hmb hE hD hx hu hxb hub hxl hul hxn hun
      go_enter Try.func22, Try.ntmps22
      go_wp2_with (first
        | (apply wpList_boxR va; rfl; rfl; rfl; intro gk w1 hgk1 hgk2 hrk hbk; rw [HVA.out] at hrk; obtain ⟨c0, c1, c2⟩ := row3 hrk; have a1 := h1.next hbk; have a2 := h2.next hbk; have a3 := h3.next hbk; have a4 := h4.next hbk)
        | (refine wpList_lenB a4 rfl rfl rfl ?_)
        | (go_at_call 57; refine (CR.out _ a1 a2 a3 a4).mono ?_; rintro e w4 ⟨rfl, rfl⟩)
        | (go_at_call 55; refine (CN.out _ a1 a2).mono ?_; rintro e w2 ⟨p, rfl, hc2, hb2⟩; have hrk2 := hrk.next hb2; obtain ⟨c02, c12, c22⟩ := row3 hrk2; have b3 := a3.next hb2; have b4 := a4.next hb2)
        | (go_at_call 56; (with_reducible refine (C1.out _ _ _ hc2 b3 b4).mono ?_); rintro e w3 ⟨vx, rfl, hx3, hb3⟩; have hrk3 := hrk2.next hb3; obtain ⟨c03, c13, c23⟩ := row3 hrk3; have d3 := b3.next hb3; have d4 := b4.next hb3; have hc3 := hc2.next hb3)
        | (go_at_call 73; (with_reducible refine (C2.out _ _ _ hc3 d3 (RdB.of_own hx3)).mono ?_); rintro e w5 ⟨vy, rfl, hy5, hb5⟩; have hrk5 := hrk3.next hb5; obtain ⟨c05, c15, c25⟩ := row3 hrk5; have e3 := d3.next hb5; have e4 := d4.next hb5; have hc5 := hc3.next hb5)
        | (go_at_call 73; (with_reducible refine (C3.out _ _ _ hc5 e3 e4).mono ?_); rintro e w6 ⟨vu, rfl, hu6, hb6⟩; have hrk6 := hrk5.next hb6; obtain ⟨c06, c16, c26⟩ := row3 hrk6; have f3 := e3.next hb6; have f4 := e4.next hb6; have hc6 := hc5.next hb6)
        | (go_at_call 56; (with_reducible refine (C4.out _ _ _ hc6 f3 (RdB.of_own hu6)).mono ?_); rintro e w7 ⟨vv, rfl, hv7, hb7⟩; have f7 := f4.next hb7; have hy7 := ((RdB.of_own hy5).next hb6).next hb7)
        | (go_at_call 43; (with_reducible refine (QL.out _ _ _ hy7 f7).mono ?_); rintro e w8 ⟨rfl, hb8⟩; have f8 := f7.next hb8; have hv8 := (RdB.of_own hv7).next hb8)
        | (go_at_call 43; (with_reducible refine (QL.out _ _ _ hv8 f8).mono ?_); rintro e w9 ⟨rfl, hb9⟩)
        | (go_at_call 54; refine (awake09 _).mono ?_; rintro e w10 ⟨rfl, hb10⟩))
      go_ret
      have s1 := hbk.size
      have s2 := hb2.size
      have s3 := hb3.size
      have s5 := hb5.size
      have s6 := hb6.size
      have s7 := hb7.size
      have s8 := hb8.size
      have s9 := hb9.size
      exact RetB.mk rfl (hbk.trans ((hb2.mono s1).trans ((hb3.mono (by omega)).trans ((hb5.mono (by omega)).trans ((hb6.mono (by omega)).trans ((hb7.mono (by omega)).trans ((hb8.mono (by omega)).trans ((hb9.mono (by omega)).trans (hb10.mono (by omega))))))))))
  · have CR : RowKit.Hid (∀ w, RdB w.heap.size w v1 kd → RdB w.heap.size w v2 kt → RdB w.heap.size w v3 t → RdB w.heap.size w v4 l → Calls Try.prog 57 #[v1, v2, v3, v4] w (RetP (.bool false) w)) := Lib.hid (fun w a b c d => rright9_no v1 v2 v3 v4 kd kt t l w a b c d hok)
    clear hok
    go_enter Try.func22, Try.ntmps22
    go_wp2_with (first
      | (apply wpList_boxR va; rfl; rfl; rfl; intro gk w1 hgk1 hgk2 hrk hbk; rw [HVA.out] at hrk; obtain ⟨c0, c1, c2⟩ := row3 hrk; have a1 := h1.next hbk; have a2 := h2.next hbk; have a3 := h3.next hbk; have a4 := h4.next hbk)
      | (refine wpList_lenB a4 rfl rfl rfl ?_)
      | (go_at_call 57; refine (CR.out _ a1 a2 a3 a4).mono ?_; rintro e w4 ⟨rfl, rfl⟩)
      | (go_at_call 54; refine (awake09 _).mono ?_; rintro e w' ⟨rfl, hb⟩))
    go_ret
    exact RetB.mk rfl (hbk.trans (hb.mono hbk.size))

/-- a cut of bytes, as a run -/
theorem run_cutB {B : Nat} {w : World} {v : Value} {l : List Nat} (h : RdB B w v l) (L H : Nat) (hLH : L ≤ H) (hHn : H ≤ l.length) {N M : Int} (hN : N = L) (hM : M = H) :
    ∃ v', (∀ W, (Instr.slice 28 v (some (.int .i64 N)) (some (.int .i64 M)) none).run Try.prog W = .ok v' W) ∧ RdB B w v' ((l.drop L).take (H - L)) := by
  subst hN hM
  obtain ⟨v', hr, hd⟩ := run_sliceS Try.underlying28 size_u8 h (some (.int .i64 (L : Int))) (some (.int .i64 (H : Int))) none L H (.inr ⟨_, rfl⟩) (.inr ⟨_, rfl⟩) (.inl rfl) hLH hHn
  refine ⟨v', hr, ?_⟩
  unfold RdB
  rw [Nat.mul_one, Nat.mul_one, bv_drop, bv_take] at hd
  have hl : ((l.drop L).take (H - L)).length = H - L := by rw [List.length_take, List.length_drop]; omega
  rw [hl]
  exact hd
end Go.Proofs.Ytfinekmegiengaa
