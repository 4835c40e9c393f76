/- The walks of layer 9: a sector turned, encrypted, decrypted. -/
import Derived.Test.YtfinekmegiengaaW09a
namespace Go.Proofs.Ytfinekmegiengaa
open Go.RowKit Nep
set_option maxRecDepth 100000
set_option linter.unusedVariables false
set_option linter.unusedSimpArgs false
set_option maxHeartbeats 1000000

theorem turned9_calls (p vt vs pk : Value) (FN : FuncId) (E : List Nat → List Nat) (ra rb t l : List Nat) (w : World) (hc : CipherAt w.heap.size w p ra rb) (hrl : rb.length = 240) (hrb : Bytes rb) (htb : Bytes t) (hrt : RdB w.heap.size w vt t) (htl : t.length = 16)
    (hlb : Bytes l) (hr : RdB w.heap.size w vs l) (h : SecOk l) (hcf : ∀ args w, (callFunc FN args).run Try.prog w = .ok (.enter FN args) w) (hE : Blocks E)
    (hof : ∀ x, x.length = 16 → Bytes x → ∀ va w', Below w.heap.size w w' → RdB w'.heap.size w' va x → Calls Try.prog FN #[pk, va] w' (RetSE (E x) w')) :
    Calls Try.prog 121 #[p, vt, vs, .func (.func FN) #[pk] #[]] w (RetSE (xtsN E (encF rb t 14) l (l.length / 16)) w) := by
  obtain ⟨n, hn⟩ : ∃ n, n = l.length / 16 := ⟨_, rfl⟩
  have C := xright_yes vs l w hr h
  obtain ⟨h16, h4096, hm16⟩ := h
  have hln : l.length = 16 * n := by omega
  have hn256 : n ≤ 256 := by omega
  obtain ⟨m, hm⟩ : ∃ m, m = encF rb t 14 := ⟨_, rfl⟩
  have hmb := encF_blk rb t hrl hrb htl htb 14 (by omega)
  rw [← hm] at hmb
  have CM : RowKit.Hid (Calls Try.prog 151 #[p, vt, .int .i64 (n : Int)] w (RetLE (maskL m n) w)) := Lib.hid (hm ▸ masks_calls p vt ra rb t n rfl hn256 w hc hrl hrb htb hrt htl)
  have hqi : (l.length : Int) / 16 = (n : Int) := by omega
  rw [← hn, ← hm]
  have HLN := Lib.hid hln
  have HMB := Lib.hid hmb
  have HOF := Lib.hid hof
  have HEb := Lib.hid hE
  have HCF := hcf
  obtain ⟨L, hL⟩ : ∃ L, L = maskL m n := ⟨_, rfl⟩
  rw [← hL] at CM
  have hLl : L.length = n := by rw [hL, maskL_length]
  have hLg : ∀ j, j < n → L.getD j [] = dblN m j := fun j hj => by rw [hL, maskL_get m n j hj]
  have HLL := Lib.hid hLl
  have HLG := Lib.hid hLg
  have hr0 := hr
  clear hn hm hmb h16 hm16 hln hof hL hLl hLg hE hcf
  go_enter Try.func121, Try.ntmps121
  go_wp2_with (first
    | (go_at_call 150; refine C.mono ?_; rintro e w1 ⟨rfl, rfl⟩)
    | (refine wpList_lenB hr rfl rfl rfl ?_)
    | (go_at_call 151; refine CM.out.mono ?_; rintro e w1 ⟨vm, rfl, hm1, hb1⟩; have hr1 := hr.next hb1)
    | (refine wpList_lenB hr1 rfl rfl rfl ?_)
    | (apply wpList_makeCap (n := l.length); rfl; rfl; rfl; rfl; rfl; omega; intro vo w2 ho2 hb2; have hm2 := hm1.rd.mono hb2)
    | (refine wpList_lenL hm2 rfl rfl rfl ?_))
  have s1 := hb1.size
  have hb12 := hb1.trans (hb2.mono s1)
  have s2 := hb2.size
  obtain ⟨B, hB⟩ : ∃ B, B = w1.heap.size := ⟨_, rfl⟩
  rw [← hB] at ho2 hm2 s1 s2
  clear C CM hr hr1 hb1 hb2 hm1 hB
  go_loopw [12, 41] (fun s i wr => ∃ k : Nat, k ≤ n ∧ i = .int .i64 k ∧ wr.ownsRow B 5 1 s (xtsN E m l k).length (bv (xtsN E m l k)) ∧ Below B w2 wr) (fun _ i _ => n - (intOf i).toNat)
  case atStart => exact ⟨0, by omega, rfl, ho2, Below.refl _ _⟩
  case round =>
    obtain ⟨k, hk, rfl, hown, hbk⟩ := hrel
    clear ho2
    have hbs := hbk.size
    have hBk : B ≤ wr.heap.size := by omega
    have hwk : Below w.heap.size w wr := hb12.trans (hbk.mono s1)
    by_cases hlt : k < n
    · have hmk := hm2.mono hbk
      have hsk := (hr0.mono hwk)
      have hkL : k < L.length := by rw [HLL.out]; exact hlt
      have hx0 := blkAt_blk HLN.out hlb hlt
      have hd := dblN_blk m HMB.out.1 HMB.out.2 k
      obtain ⟨d, hde⟩ : ∃ d, d = dblN m k := ⟨_, rfl⟩
      rw [← hde] at hd
      have hLk : L.getD k [] = d := by rw [HLG.out k hlt, hde]
      obtain ⟨x0, hx0e⟩ : ∃ x, x = blkAt l k := ⟨_, rfl⟩
      rw [← hx0e] at hx0
      have hcut : (l.drop (16 * k)).take (16 * k + 16 - 16 * k) = x0 := by rw [hx0e, show 16 * k + 16 - 16 * k = 16 from by omega]; rfl
      obtain ⟨x1, hx1e⟩ : ∃ x, x = xorL x0 d := ⟨_, rfl⟩
      have hx1 : x1.length = 16 ∧ Bytes x1 := by rw [hx1e]; exact ⟨by rw [xorL_length _ _ (by rw [hx0.1, hd.1])]; exact hx0.1, xorL_bytes hx0.2 hd.2⟩
      have hx2 := HEb.out x1 hx1.1 hx1.2
      have CF := HOF.out x1 hx1.1 hx1.2
      obtain ⟨x2, hx2e⟩ : ∃ x, x = E x1 := ⟨_, rfl⟩
      rw [← hx2e] at hx2 CF
      obtain ⟨x3, hx3e⟩ : ∃ x, x = xorL x2 d := ⟨_, rfl⟩
      have hx3 : x3.length = 16 ∧ Bytes x3 := by rw [hx3e]; exact ⟨by rw [xorL_length _ _ (by rw [hx2.1, hd.1])]; exact hx2.1, xorL_bytes hx2.2 hd.2⟩
      have hnext : xtsN E m l (k + 1) = xtsN E m l k ++ x3 := by rw [xtsN, xtsB, hx3e, hx2e, hx1e, hx0e, hde]
      have hlen := xtsN_blk HEb.out HMB.out.1 HMB.out.2 HLN.out hlb k hk
      obtain ⟨P, hP⟩ : ∃ P, P = xtsN E m l k := ⟨_, rfl⟩
      rw [← hP] at hnext hlen hown
      have C1 : RowKit.Hid (∀ va vb w, RdB w.heap.size w va x0 → RdB w.heap.size w vb d → Calls Try.prog 152 #[va, vb] w (RetSE x1 w)) := Lib.hid (fun va vb w h1 h2 => hx1e ▸ oxor_calls va vb x0 d w hx0.2 hd.2 h1 h2 (by rw [hx0.1, hd.1]) (by rw [hx0.1]; omega))
      have C2 : RowKit.Hid (∀ va vb w, RdB w.heap.size w va x2 → RdB w.heap.size w vb d → Calls Try.prog 152 #[va, vb] w (RetSE x3 w)) := Lib.hid (fun va vb w h1 h2 => hx3e ▸ oxor_calls va vb x2 d w hx2.2 hd.2 h1 h2 (by rw [hx2.1, hd.1]) (by rw [hx2.1]; omega))
      have HCF' := Lib.hid CF
      have HN := Lib.hid hnext
      have HP := Lib.hid hlen
      have HX3 := Lib.hid hx3.1
      have HCUT := Lib.hid hcut
      have hkl : 16 * k + 16 ≤ l.length := by have := HLN.out; omega
      have hLK := Lib.hid hLk
      clear hx0 hd hde hLk hx0e hcut hx1e hx1 hx2 CF hx2e hx3e hx3 hnext hlen hP
      go_wp2_with (first
        | (apply wpList_indexL hmk k hkL; rfl; rfl; rfl; rfl; rfl; intro q y hq hcq hry; rw [hLK.out] at hry)
        | (apply wpList_cutB hsk (16 * k) (16 * k + 16); rfl; rfl; rfl; exact .inr ⟨_, _, rfl, by omega⟩; exact .inr ⟨_, _, rfl, by omega⟩; exact .inl rfl; omega; omega; intro v' hr'; rw [HCUT.out] at hr')
        | (go_at_call 152; (with_reducible refine (C1.out _ _ _ (hr'.up (Nat.le_trans s1 hBk)) (hry.up hBk)).mono ?_); rintro e w4 ⟨v4, rfl, ho4, hb4⟩; have hry4 := (hry.up hBk).next hb4; have s4 := hb4.size; have hw4 : Below w.heap.size w w4 := hwk.trans (hb4.mono (Nat.le_trans s1 hBk)))
        | (refine (HCF'.out _ _ hw4 (RdB.of_own ho4)).mono ?_; rintro e w5 ⟨v5, rfl, ho5, hb5⟩; have hry5 := hry4.next hb5; have s5 := hb5.size)
        | (go_at_call 152; (with_reducible refine (C2.out _ _ _ (RdB.of_own ho5) hry5).mono ?_); rintro e w6 ⟨v6, rfl, ho6, hb6⟩; have hown6 := own_next (own_next (own_next hown hb4) hb5) hb6; have s6 := hb6.size)
        | (at_builtin; apply wpList_appendB hown6 (RdB.of_own ho6); rfl; rfl; rfl; rfl; (rw [HP.out.1, HX3.out]; omega); omega; intro v7 w7 ho7 hg7))
      have hb7 : Below B w6 w7 := below_own hg7 hown6 (Nat.le_refl _) (by omega)
      go_roundw
      case rel => exact ⟨k + 1, by omega, by go_num, by rw [HN.out]; exact ho7, hbk.trans ((hb4.mono hBk).trans ((hb5.mono (by omega)).trans ((hb6.mono (by omega)).trans hb7)))⟩
      case measure => simp [intOf]; omega
    · have hkL : L.length ≤ k := by rw [HLL.out]; omega
      go_wp2_with fail
      go_ret2
      obtain rfl : k = n := by omega
      exact ⟨_, rfl, own_base hown s1, hwk⟩

theorem callFunc_enc (args : Array Value) (w : World) : (callFunc 42 args).run Try.prog w = .ok (.enter 42 args) w := by rfl
theorem callFunc_dec (args : Array Value) (w : World) : (callFunc 48 args).run Try.prog w = .ok (.enter 48 args) w := by rfl

theorem xenc_nil (vt vs : Value) (w : World) : Calls Try.prog 56 #[.pointer none, vt, vs] w (RetE 2 w) := by
  go_enter Try.func56, Try.ntmps56
  go_wp2
  go_ret2
  exact ⟨rfl, Below.refl _ _⟩
theorem xenc_bad (p vt vs : Value) (l t ra rb : List Nat) (w : World) (hc : CipherAt w.heap.size w p ra rb) (hrt : RdB w.heap.size w vt t) (hr : RdB w.heap.size w vs l) (h : ¬ (SecOk l ∧ t.length = 16)) : Calls Try.prog 56 #[p, vt, vs] w (RetE 2 w) := by
  have C : RowKit.Hid (∀ F, Calls Try.prog 121 #[p, vt, vs, F] w (RetE 2 w)) := Lib.hid (fun F => by
    by_cases h1 : SecOk l
    · exact turned9_badtweak p vt vs F l t ra rb w hc hrt hr h1 (fun h2 => h ⟨h1, h2⟩)
    · exact turned9_badsec p vt vs F l w hr h1)
  obtain ⟨cb, pa, pb, rfl, hcb, c0, c1, hka, hkb⟩ := hc
  clear h
  go_enter Try.func56, Try.ntmps56
  go_wp2_with (first | (go_at_call 121; refine (C.out _).mono ?_; rintro e w1 ⟨rfl, hb1⟩))
  go_ret2
  exact ⟨rfl, hb1⟩
theorem xenc_calls (p vt vs : Value) (ka kb t l : List Nat) (w : World) (hka : ka.length = 32) (hkab : Bytes ka) (hkb : kb.length = 32) (hkbb : Bytes kb) (hc : CipherAt w.heap.size w p (flatL ka) (flatL kb)) (htb : Bytes t) (hrt : RdB w.heap.size w vt t) (htl : t.length = 16)
    (hlb : Bytes l) (hr : RdB w.heap.size w vs l) (h : SecOk l) : Calls Try.prog 56 #[p, vt, vs] w (RetSE (xtsN (encE ka) (encE kb t) l (l.length / 16)) w) := by
  have hc0 := hc
  obtain ⟨cb, pa, pb, rfl, hcb, c0, c1, hka', hkb'⟩ := hc
  have C := turned9_calls _ vt vs pa 42 (encE ka) _ _ t l w hc0 (flatL_length kb hkb hkbb) (flatL_bytes kb hkb hkbb) htb hrt htl hlb hr h callFunc_enc (encE_blocks ka hka hkab)
    (fun x hx hxb va w' hb hrx => encrypt_calls pa va _ x w' ((hka'.mono hb).up hb.size) (flatL_length ka hka hkab) (flatL_bytes ka hka hkab) hrx hxb hx)
  rw [show encF (flatL kb) t 14 = encE kb t from rfl] at C
  generalize xtsN (encE ka) (encE kb t) l (l.length / 16) = ys at *
  have HC := Lib.hid C
  clear C hc0 h htl hka hkb
  go_enter Try.func56, Try.ntmps56
  go_wp2_with (first | (go_at_call 121; refine HC.out.mono ?_; rintro e w1 ⟨v1, rfl, ho1, hb1⟩))
  go_ret2
  exact ⟨_, rfl, ho1, hb1⟩
theorem xdec_nil (vt vs : Value) (w : World) : Calls Try.prog 73 #[.pointer none, vt, vs] w (RetE 2 w) := by
  go_enter Try.func73, Try.ntmps73
  go_wp2
  go_ret2
  exact ⟨rfl, Below.refl _ _⟩
theorem xdec_bad (p vt vs : Value) (l t ra rb : List Nat) (w : World) (hc : CipherAt w.heap.size w p ra rb) (hrt : RdB w.heap.size w vt t) (hr : RdB w.heap.size w vs l) (h : ¬ (SecOk l ∧ t.length = 16)) : Calls Try.prog 73 #[p, vt, vs] w (RetE 2 w) := by
  have C : RowKit.Hid (∀ F, Calls Try.prog 121 #[p, vt, vs, F] w (RetE 2 w)) := Lib.hid (fun F => by
    by_cases h1 : SecOk l
    · exact turned9_badtweak p vt vs F l t ra rb w hc hrt hr h1 (fun h2 => h ⟨h1, h2⟩)
    · exact turned9_badsec p vt vs F l w hr h1)
  obtain ⟨cb, pa, pb, rfl, hcb, c0, c1, hka, hkb⟩ := hc
  clear h
  go_enter Try.func73, Try.ntmps73
  go_wp2_with (first | (go_at_call 121; refine (C.out _).mono ?_; rintro e w1 ⟨rfl, hb1⟩))
  go_ret2
  exact ⟨rfl, hb1⟩
theorem xdec_calls (p vt vs : Value) (ka kb t l : List Nat) (w : World) (hka : ka.length = 32) (hkab : Bytes ka) (hkb : kb.length = 32) (hkbb : Bytes kb) (hc : CipherAt w.heap.size w p (flatL ka) (flatL kb)) (htb : Bytes t) (hrt : RdB w.heap.size w vt t) (htl : t.length = 16)
    (hlb : Bytes l) (hr : RdB w.heap.size w vs l) (h : SecOk l) : Calls Try.prog 73 #[p, vt, vs] w (RetSE (xtsN (decE ka) (encE kb t) l (l.length / 16)) w) := by
  have hc0 := hc
  obtain ⟨cb, pa, pb, rfl, hcb, c0, c1, hka', hkb'⟩ := hc
  have C := turned9_calls _ vt vs pa 48 (decE ka) _ _ t l w hc0 (flatL_length kb hkb hkbb) (flatL_bytes kb hkb hkbb) htb hrt htl hlb hr h callFunc_dec (decE_blocks ka hka hkab)
    (fun x hx hxb va w' hb hrx => decrypt_calls pa va _ x w' ((hka'.mono hb).up hb.size) (flatL_length ka hka hkab) (flatL_bytes ka hka hkab) hrx hxb hx)
  rw [show encF (flatL kb) t 14 = encE kb t from rfl] at C
  generalize xtsN (encE ka) (encE kb t) l (l.length / 16) = ys at *
  have HC := Lib.hid C
  clear C hc0 h htl hka hkb
  go_enter Try.func73, Try.ntmps73
  go_wp2_with (first | (go_at_call 121; refine HC.out.mono ?_; rintro e w1 ⟨v1, rfl, ho1, hb1⟩))
  go_ret2
  exact ⟨_, rfl, ho1, hb1⟩
end Go.Proofs.Ytfinekmegiengaa
