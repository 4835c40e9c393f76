/- The walks of layer 9's reference: what may be; a sector, encrypted, decrypted. -/
import Derived.Test.YtfinekmegiengaaW09b
import Derived.Test.YtfinekmegiengaaW08c
import Derived.Test.YtfinekmegiengaaWC
namespace Go.Proofs.Ytfinekmegiengaa
open Go.RowKit Nep
set_option maxRecDepth 100000
set_option linter.unusedVariables false
set_option linter.unusedSimpArgs false
set_option maxHeartbeats 1000000

theorem RdB.grown_apart {B : Nat} {w w' : World} {v : Value} {l : List Nat} (h : RdB B w v l) {r : Option Nat} (hg : w.grownBy w' r) (ha : ∀ g, r = some g → Apart g v) : RdB B w' v l := RdS.grown_apart h hg ha
/-- may keys, a tweak and a sector be? -/
def XOk (kd kt t l : List Nat) : Prop := kd.length = 32 ∧ kt.length = 32 ∧ t.length = 16 ∧ 16 ≤ l.length ∧ l.length ≤ 4096 ∧ l.length % 16 = 0
theorem rright9_yes (v1 v2 v3 v4 : Value) (kd kt t l : List Nat) (w : World) (h1 : RdB w.heap.size w v1 kd) (h2 : RdB w.heap.size w v2 kt) (h3 : RdB w.heap.size w v3 t) (h4 : RdB w.heap.size w v4 l) (h : XOk kd kt t l) :
    Calls Try.prog 57 #[v1, v2, v3, v4] w (RetP (.bool true) w) := by
  obtain ⟨c0, c1, c2, c3, c4, c5⟩ := h
  have e1 : ((kd.length : Int) == 32) = true := by simp; omega
  have e2 : ((kt.length : Int) == 32) = true := by simp; omega
  have e3 : ((t.length : Int) == 16) = true := by simp; omega
  have e6 : ((l.length : Int) % 16 == 0) = true := by simp; omega
  clear c0 c1 c2
  go_enter Try.func57, Try.ntmps57
  go_wp2_with (first | (refine wpList_lenB h1 rfl rfl rfl ?_) | (refine wpList_lenB h2 rfl rfl rfl ?_) | (refine wpList_lenB h3 rfl rfl rfl ?_) | (refine wpList_lenB h4 rfl rfl rfl ?_))
  go_ret
  exact ⟨rfl, rfl⟩
theorem rright9_no (v1 v2 v3 v4 : Value) (kd kt t l : List Nat) (w : World) (h1 : RdB w.heap.size w v1 kd) (h2 : RdB w.heap.size w v2 kt) (h3 : RdB w.heap.size w v3 t) (h4 : RdB w.heap.size w v4 l) (h : ¬ XOk kd kt t l) :
    Calls Try.prog 57 #[v1, v2, v3, v4] w (RetP (.bool false) w) := by
  unfold XOk at h
  by_cases c0 : kd.length = 32
  · have e1 : ((kd.length : Int) == 32) = true := by simp; omega
    by_cases c1 : kt.length = 32
    · have e2 : ((kt.length : Int) == 32) = true := by simp; omega
      by_cases c2 : t.length = 16
      · have e3 : ((t.length : Int) == 16) = true := by simp; omega
        by_cases c3 : 16 ≤ l.length
        · skip
          by_cases c4 : l.length ≤ 4096
          · skip
            by_cases c5 : l.length % 16 = 0
            · have e6 : ((l.length : Int) % 16 == 0) = true := by simp; omega
              exact absurd ⟨c0, c1, c2, c3, c4, c5⟩ h
            · have e6 : ((l.length : Int) % 16 == 0) = false := by simp; omega
              clear h
              go_enter Try.func57, Try.ntmps57
              go_wp2_with (first | (refine wpList_lenB h1 rfl rfl rfl ?_) | (refine wpList_lenB h2 rfl rfl rfl ?_) | (refine wpList_lenB h3 rfl rfl rfl ?_) | (refine wpList_lenB h4 rfl rfl rfl ?_))
              go_ret
              exact ⟨rfl, rfl⟩
          · skip
            clear h
            go_enter Try.func57, Try.ntmps57
            go_wp2_with (first | (refine wpList_lenB h1 rfl rfl rfl ?_) | (refine wpList_lenB h2 rfl rfl rfl ?_) | (refine wpList_lenB h3 rfl rfl rfl ?_) | (refine wpList_lenB h4 rfl rfl rfl ?_))
            go_ret
            exact ⟨rfl, rfl⟩
        · skip
          clear h
          go_enter Try.func57, Try.ntmps57
          go_wp2_with (first | (refine wpList_lenB h1 rfl rfl rfl ?_) | (refine wpList_lenB h2 rfl rfl rfl ?_) | (refine wpList_lenB h3 rfl rfl rfl ?_) | (refine wpList_lenB h4 rfl rfl rfl ?_))
          go_ret
          exact ⟨rfl, rfl⟩
      · have e3 : ((t.length : Int) == 16) = false := by simp; omega
        clear h
        go_enter Try.func57, Try.ntmps57
        go_wp2_with (first | (refine wpList_lenB h1 rfl rfl rfl ?_) | (refine wpList_lenB h2 rfl rfl rfl ?_) | (refine wpList_lenB h3 rfl rfl rfl ?_) | (refine wpList_lenB h4 rfl rfl rfl ?_))
        go_ret
        exact ⟨rfl, rfl⟩
    · have e2 : ((kt.length : Int) == 32) = false := by simp; omega
      clear h
      go_enter Try.func57, Try.ntmps57
      go_wp2_with (first | (refine wpList_lenB h1 rfl rfl rfl ?_) | (refine wpList_lenB h2 rfl rfl rfl ?_) | (refine wpList_lenB h3 rfl rfl rfl ?_) | (refine wpList_lenB h4 rfl rfl rfl ?_))
      go_ret
      exact ⟨rfl, rfl⟩
  · have e1 : ((kd.length : Int) == 32) = false := by simp; omega
    clear h
    go_enter Try.func57, Try.ntmps57
    go_wp2_with (first | (refine wpList_lenB h1 rfl rfl rfl ?_) | (refine wpList_lenB h2 rfl rfl rfl ?_) | (refine wpList_lenB h3 rfl rfl rfl ?_) | (refine wpList_lenB h4 rfl rfl rfl ?_))
    go_ret
    exact ⟨rfl, rfl⟩

theorem rxenc_calls (v1 v2 v3 v4 v5 : Value) (kd kt t l T : List Nat) (w : World) (hkd : Bytes kd) (hkt : Bytes kt) (htb : Bytes t) (hlb : Bytes l) (h1 : RdB w.heap.size w v1 kd) (h2 : RdB w.heap.size w v2 kt) (h3 : RdB w.heap.size w v3 t) (h4 : RdB w.heap.size w v4 l) (h5 : RdB w.heap.size w v5 T) (hT : T = sboxL) (h : XOk kd kt t l) :
    Calls Try.prog 58 #[v1, v2, v3, v4, v5] w (RetS (xtsN (encE kd) (encE kt t) l (l.length / 16)) w) := by
  obtain ⟨hd32, ht32, ht16, h16, h4096, hm16⟩ := h
  obtain ⟨n, hn⟩ : ∃ n, n = l.length / 16 := ⟨_, rfl⟩
  have hln : l.length = 16 * n := by omega
  obtain ⟨m, hm⟩ : ∃ m, m = encE kt t := ⟨_, rfl⟩
  have hmb := encE_blocks kt ht32 hkt t ht16 htb
  rw [← hm] at hmb
  have hE := encE_blocks kd hd32 hkd
  have C0 : RowKit.Hid (∀ w, RdB w.heap.size w v2 kt → RdB w.heap.size w v3 t → RdB w.heap.size w v5 T → Calls Try.prog 44 #[v2, v3, v5] w (RetS m w)) := Lib.hid (fun w a b c => by
    have h := renc_calls v2 v3 v5 kt t T w hkt a ht32 htb b ht16 c hT
    rw [encE_eq kt t ht32 hkt, ← hm] at h
    exact h)
  have CE : RowKit.Hid (∀ x, x.length = 16 → Bytes x → ∀ va w, RdB w.heap.size w v1 kd → RdB w.heap.size w va x → RdB w.heap.size w v5 T → Calls Try.prog 44 #[v1, va, v5] w (RetS (encE kd x) w)) := Lib.hid (fun x hx hxb va w a b c => by
    have h := renc_calls v1 va v5 kd x T w hkd a hd32 hxb b hx c hT
    rwa [encE_eq kd x hd32 hkd] at h)
  rw [← hn, ← hm]
  generalize encE kd = E at *
  have HLN := Lib.hid hln
  have HMB := Lib.hid hmb
  have HEb := Lib.hid hE
  clear hn hm hmb h16 hm16 hln hE hd32 ht32 ht16 hT
  have g1 := h1
  have g4 := h4
  have g5 := h5
  go_enter Try.func58, Try.ntmps58
  go_wp2_with (first
    | (go_at_call 44; refine (C0.out _ h2 h3 h5).mono ?_; rintro e w1 ⟨vm, rfl, hm1, hb1⟩)
    | (apply wpList_buildB []; exact of_decide_eq_true rfl; rfl; rfl; rfl; intro g2 w2 hg21 hg22 ho2 hb2))
  have s1 := hb1.size
  have s2 := hb2.size
  have hb12 := hb1.trans (hb2.mono s1)
  have hm2 := (RdB.of_own hm1).next hb2
  have ho2' := own_base ho2 s1
  have hap2 : ∀ g, (Value.slice (some ⟨g2, 0, none⟩) 0 0).ownBlock = some g → Apart g vm := fun g hg => (RdB.of_own hm1).apart (by have h : some g2 = some g := hg; injection h with h; omega)
  clear h1 h2 h3 h4 h5 hm1 hb1 hb2 ho2 s1 C0
  go_loopw [11, 12, 13] (fun mk s i wr => ∃ k : Nat, k ≤ n ∧ i = .int .i64 ((16 * k : Nat) : Int) ∧ RdB wr.heap.size wr mk (dblN m k) ∧ wr.ownsRow w.heap.size 5 1 s (xtsN E m l k).length (bv (xtsN E m l k)) ∧ (∀ g, s.ownBlock = some g → Apart g mk) ∧ Below w.heap.size w wr) (fun _ _ i _ => l.length - (intOf i).toNat)
  case atStart => exact ⟨0, by omega, rfl, hm2, ho2', hap2, hb12⟩
  case round =>
    obtain ⟨k, hk, hi, hmk, hown, hap, hbk⟩ := hrel
    clear ho2' hap2 hm2 hb12
    have hbs := hbk.size
    obtain ⟨q, hq⟩ : ∃ q, q = 16 * k := ⟨_, rfl⟩
    rw [← hq] at hi
    subst hi
    have hsk := g4.mono hbk
    have hdk := (g1.mono hbk).up hbs
    have htk := (g5.mono hbk).up hbs
    by_cases hlt : k < n
    · have hx0 := blkAt_blk HLN.out hlb hlt
      have hd := dblN_blk m HMB.out.1 HMB.out.2 k
      obtain ⟨d, hde⟩ : ∃ d, d = dblN m k := ⟨_, rfl⟩
      have hdn : dblN m (k + 1) = dblL d := by rw [hde]; rfl
      rw [← hde] at hd hmk
      obtain ⟨x0, hx0e⟩ : ∃ x, x = blkAt l k := ⟨_, rfl⟩
      rw [← hx0e] at hx0
      have hcut : (l.drop q).take (q + 16 - q) = x0 := by rw [hx0e, hq, show 16 * k + 16 - 16 * k = 16 from by omega]; rfl
      obtain ⟨x1, hx1e⟩ : ∃ x, x = xorL x0 d := ⟨_, rfl⟩
      have hx1 : x1.length = 16 ∧ Bytes x1 := by rw [hx1e]; exact ⟨by rw [xorL_length _ _ (by rw [hx0.1, hd.1])]; exact hx0.1, xorL_bytes hx0.2 hd.2⟩
      have hx2 := HEb.out x1 hx1.1 hx1.2
      have CF := CE.out x1 hx1.1 hx1.2
      obtain ⟨x2, hx2e⟩ : ∃ x, x = E x1 := ⟨_, rfl⟩
      rw [← hx2e] at hx2 CF
      obtain ⟨x3, hx3e⟩ : ∃ x, x = xorL x2 d := ⟨_, rfl⟩
      have hx3 : x3.length = 16 ∧ Bytes x3 := by rw [hx3e]; exact ⟨by rw [xorL_length _ _ (by rw [hx2.1, hd.1])]; exact hx2.1, xorL_bytes hx2.2 hd.2⟩
      have hnext : xtsN E m l (k + 1) = xtsN E m l k ++ x3 := by rw [xtsN, xtsB, hx3e, hx2e, hx1e, hx0e, hde]
      have hlen := xtsN_blk HEb.out HMB.out.1 HMB.out.2 HLN.out hlb k hk
      obtain ⟨P, hP⟩ : ∃ P, P = xtsN E m l k := ⟨_, rfl⟩
      rw [← hP] at hnext hlen hown
      obtain ⟨d2, hd2⟩ : ∃ d2, d2 = dblL d := ⟨_, rfl⟩
      rw [← hd2] at hdn
      have C1 : RowKit.Hid (∀ va vb w, RdB w.heap.size w va x0 → RdB w.heap.size w vb d → Calls Try.prog 105 #[va, vb] w (RetS x1 w)) := Lib.hid (fun va vb w h1 h2 => hx1e ▸ rxor_calls va vb x0 d w hx0.2 hd.2 h1 h2 (by rw [hx0.1, hd.1]) (by rw [hx0.1]; omega))
      have C2 : RowKit.Hid (∀ va vb w, RdB w.heap.size w va x2 → RdB w.heap.size w vb d → Calls Try.prog 105 #[va, vb] w (RetS x3 w)) := Lib.hid (fun va vb w h1 h2 => hx3e ▸ rxor_calls va vb x2 d w hx2.2 hd.2 h1 h2 (by rw [hx2.1, hd.1]) (by rw [hx2.1]; omega))
      have C3 : RowKit.Hid (∀ va w, RdB w.heap.size w va d → Calls Try.prog 122 #[va] w (RetS d2 w)) := Lib.hid (fun va w h1 => hd2 ▸ rdouble_calls va d w hd.2 h1 hd.1)
      have HCF' := Lib.hid CF
      have HN := Lib.hid hnext
      have HP := Lib.hid hlen
      have HX3 := Lib.hid hx3.1
      have HCUT := Lib.hid hcut
      have HDN := Lib.hid hdn
      have hkl : q + 16 ≤ l.length := by have := HLN.out; omega
      have hql : q < l.length := by omega
      have HQ := Lib.hid hq
      clear hx0 hd hde hx0e hcut hx1e hx1 hx2 CF hx2e hx3e hx3 hnext hlen hP hd2 hdn hq
      go_wp2_with (first
        | (refine wpList_lenB hsk rfl rfl rfl ?_)
        | (apply wpList_cutB hsk q (q + 16); rfl; rfl; rfl; exact .inr ⟨_, _, rfl, by omega⟩; exact .inr ⟨_, _, rfl, by omega⟩; exact .inl rfl; omega; omega; intro v' hr'; rw [HCUT.out] at hr')
        | (go_at_call 105; (with_reducible refine (C1.out _ _ _ (hr'.up hbs) hmk).mono ?_); rintro e w4 ⟨v4, rfl, ho4, hb4⟩; have hmk4 := hmk.next hb4; have s4 := hb4.size; have hdk4 := hdk.next hb4; have htk4 := htk.next hb4)
        | (go_at_call 44; refine (HCF'.out _ _ hdk4 (RdB.of_own ho4) htk4).mono ?_; rintro e w5 ⟨v5, rfl, ho5, hb5⟩; have hmk5 := hmk4.next hb5; have s5 := hb5.size)
        | (go_at_call 105; (with_reducible refine (C2.out _ _ _ (RdB.of_own ho5) hmk5).mono ?_); rintro e w6 ⟨v6, rfl, ho6, hb6⟩; have hown6 := own_next (own_next (own_next hown hb4) hb5) hb6; have s6 := hb6.size; have hmk6 := hmk5.next hb6)
        | (at_builtin; apply wpList_appendB hown6 (RdB.of_own ho6); rfl; rfl; rfl; rfl; (rw [HP.out.1, HX3.out]; have := HQ.out; omega); omega; intro v7 w7 ho7 hg7; have hmk7 := (RdB.grown_apart hmk6 hg7 hap).up hg7.size; have hb7 : Below w.heap.size w6 w7 := below_own hg7 hown6 (Nat.le_refl _) (by omega); have s7 := hb7.size)
        | (go_at_call 122; refine (C3.out _ _ hmk7).mono ?_; rintro e w8 ⟨v8, rfl, ho8, hb8⟩))
      go_roundw
      case rel => exact ⟨k + 1, by omega, by have := HQ.out; go_num, by rw [HDN.out]; exact RdB.of_own ho8, by rw [HN.out]; exact own_next ho7 hb8, fun g hg => own_apart ho8 (ho7.lt g hg).2, hbk.trans ((hb4.mono hbs).trans ((hb5.mono (by omega)).trans ((hb6.mono (by omega)).trans (hb7.trans (hb8.mono (by omega))))))⟩
      case measure => simp [intOf]; omega
    · have hql : l.length ≤ q := by have := HLN.out; omega
      clear hq
      go_wp2_with (first | (refine wpList_lenB hsk rfl rfl rfl ?_))
      go_ret
      obtain rfl : k = n := by omega
      exact ⟨_, rfl, hown, hbk⟩
theorem rxdec_calls (v1 v2 v3 v4 v5 : Value) (kd kt t l T : List Nat) (w : World) (hkd : Bytes kd) (hkt : Bytes kt) (htb : Bytes t) (hlb : Bytes l) (h1 : RdB w.heap.size w v1 kd) (h2 : RdB w.heap.size w v2 kt) (h3 : RdB w.heap.size w v3 t) (h4 : RdB w.heap.size w v4 l) (h5 : RdB w.heap.size w v5 T) (hT : T = sboxL) (h : XOk kd kt t l) :
    Calls Try.prog 74 #[v1, v2, v3, v4, v5] w (RetS (xtsN (decE kd) (encE kt t) l (l.length / 16)) w) := by
  obtain ⟨hd32, ht32, ht16, h16, h4096, hm16⟩ := h
  obtain ⟨n, hn⟩ : ∃ n, n = l.length / 16 := ⟨_, rfl⟩
  have hln : l.length = 16 * n := by omega
  obtain ⟨m, hm⟩ : ∃ m, m = encE kt t := ⟨_, rfl⟩
  have hmb := encE_blocks kt ht32 hkt t ht16 htb
  rw [← hm] at hmb
  have hE := decE_blocks kd hd32 hkd
  have C0 : RowKit.Hid (∀ w, RdB w.heap.size w v2 kt → RdB w.heap.size w v3 t → RdB w.heap.size w v5 T → Calls Try.prog 44 #[v2, v3, v5] w (RetS m w)) := Lib.hid (fun w a b c => by
    have h := renc_calls v2 v3 v5 kt t T w hkt a ht32 htb b ht16 c hT
    rw [encE_eq kt t ht32 hkt, ← hm] at h
    exact h)
  have CE : RowKit.Hid (∀ x, x.length = 16 → Bytes x → ∀ va w, RdB w.heap.size w v1 kd → RdB w.heap.size w va x → RdB w.heap.size w v5 T → Calls Try.prog 49 #[v1, va, v5] w (RetS (decE kd x) w)) := Lib.hid (fun x hx hxb va w a b c => by
    have h := rdec_calls v1 va v5 kd x T w hkd a hd32 hxb b hx c hT
    rwa [decE_eq kd x hd32 hkd] at h)
  rw [← hn, ← hm]
  generalize decE kd = E at *
  have HLN := Lib.hid hln
  have HMB := Lib.hid hmb
  have HEb := Lib.hid hE
  clear hn hm hmb h16 hm16 hln hE hd32 ht32 ht16 hT
  have g1 := h1
  have g4 := h4
  have g5 := h5
  go_enter Try.func74, Try.ntmps74
  go_wp2_with (first
    | (go_at_call 44; refine (C0.out _ h2 h3 h5).mono ?_; rintro e w1 ⟨vm, rfl, hm1, hb1⟩)
    | (apply wpList_buildB []; exact of_decide_eq_true rfl; rfl; rfl; rfl; intro g2 w2 hg21 hg22 ho2 hb2))
  have s1 := hb1.size
  have s2 := hb2.size
  have hb12 := hb1.trans (hb2.mono s1)
  have hm2 := (RdB.of_own hm1).next hb2
  have ho2' := own_base ho2 s1
  have hap2 : ∀ g, (Value.slice (some ⟨g2, 0, none⟩) 0 0).ownBlock = some g → Apart g vm := fun g hg => (RdB.of_own hm1).apart (by have h : some g2 = some g := hg; injection h with h; omega)
  clear h1 h2 h3 h4 h5 hm1 hb1 hb2 ho2 s1 C0
  go_loopw [11, 12, 13] (fun mk s i wr => ∃ k : Nat, k ≤ n ∧ i = .int .i64 ((16 * k : Nat) : Int) ∧ RdB wr.heap.size wr mk (dblN m k) ∧ wr.ownsRow w.heap.size 5 1 s (xtsN E m l k).length (bv (xtsN E m l k)) ∧ (∀ g, s.ownBlock = some g → Apart g mk) ∧ Below w.heap.size w wr) (fun _ _ i _ => l.length - (intOf i).toNat)
  case atStart => exact ⟨0, by omega, rfl, hm2, ho2', hap2, hb12⟩
  case round =>
    obtain ⟨k, hk, hi, hmk, hown, hap, hbk⟩ := hrel
    clear ho2' hap2 hm2 hb12
    have hbs := hbk.size
    obtain ⟨q, hq⟩ : ∃ q, q = 16 * k := ⟨_, rfl⟩
    rw [← hq] at hi
    subst hi
    have hsk := g4.mono hbk
    have hdk := (g1.mono hbk).up hbs
    have htk := (g5.mono hbk).up hbs
    by_cases hlt : k < n
    · have hx0 := blkAt_blk HLN.out hlb hlt
      have hd := dblN_blk m HMB.out.1 HMB.out.2 k
      obtain ⟨d, hde⟩ : ∃ d, d = dblN m k := ⟨_, rfl⟩
      have hdn : dblN m (k + 1) = dblL d := by rw [hde]; rfl
      rw [← hde] at hd hmk
      obtain ⟨x0, hx0e⟩ : ∃ x, x = blkAt l k := ⟨_, rfl⟩
      rw [← hx0e] at hx0
      have hcut : (l.drop q).take (q + 16 - q) = x0 := by rw [hx0e, hq, show 16 * k + 16 - 16 * k = 16 from by omega]; rfl
      obtain ⟨x1, hx1e⟩ : ∃ x, x = xorL x0 d := ⟨_, rfl⟩
      have hx1 : x1.length = 16 ∧ Bytes x1 := by rw [hx1e]; exact ⟨by rw [xorL_length _ _ (by rw [hx0.1, hd.1])]; exact hx0.1, xorL_bytes hx0.2 hd.2⟩
      have hx2 := HEb.out x1 hx1.1 hx1.2
      have CF := CE.out x1 hx1.1 hx1.2
      obtain ⟨x2, hx2e⟩ : ∃ x, x = E x1 := ⟨_, rfl⟩
      rw [← hx2e] at hx2 CF
      obtain ⟨x3, hx3e⟩ : ∃ x, x = xorL x2 d := ⟨_, rfl⟩
      have hx3 : x3.length = 16 ∧ Bytes x3 := by rw [hx3e]; exact ⟨by rw [xorL_length _ _ (by rw [hx2.1, hd.1])]; exact hx2.1, xorL_bytes hx2.2 hd.2⟩
      have hnext : xtsN E m l (k + 1) = xtsN E m l k ++ x3 := by rw [xtsN, xtsB, hx3e, hx2e, hx1e, hx0e, hde]
      have hlen := xtsN_blk HEb.out HMB.out.1 HMB.out.2 HLN.out hlb k hk
      obtain ⟨P, hP⟩ : ∃ P, P = xtsN E m l k := ⟨_, rfl⟩
      rw [← hP] at hnext hlen hown
      obtain ⟨d2, hd2⟩ : ∃ d2, d2 = dblL d := ⟨_, rfl⟩
      rw [← hd2] at hdn
      have C1 : RowKit.Hid (∀ va vb w, RdB w.heap.size w va x0 → RdB w.heap.size w vb d → Calls Try.prog 105 #[va, vb] w (RetS x1 w)) := Lib.hid (fun va vb w h1 h2 => hx1e ▸ rxor_calls va vb x0 d w hx0.2 hd.2 h1 h2 (by rw [hx0.1, hd.1]) (by rw [hx0.1]; omega))
      have C2 : RowKit.Hid (∀ va vb w, RdB w.heap.size w va x2 → RdB w.heap.size w vb d → Calls Try.prog 105 #[va, vb] w (RetS x3 w)) := Lib.hid (fun va vb w h1 h2 => hx3e ▸ rxor_calls va vb x2 d w hx2.2 hd.2 h1 h2 (by rw [hx2.1, hd.1]) (by rw [hx2.1]; omega))
      have C3 : RowKit.Hid (∀ va w, RdB w.heap.size w va d → Calls Try.prog 122 #[va] w (RetS d2 w)) := Lib.hid (fun va w h1 => hd2 ▸ rdouble_calls va d w hd.2 h1 hd.1)
      have HCF' := Lib.hid CF
      have HN := Lib.hid hnext
      have HP := Lib.hid hlen
      have HX3 := Lib.hid hx3.1
      have HCUT := Lib.hid hcut
      have HDN := Lib.hid hdn
      have hkl : q + 16 ≤ l.length := by have := HLN.out; omega
      have hql : q < l.length := by omega
      have HQ := Lib.hid hq
      clear hx0 hd hde hx0e hcut hx1e hx1 hx2 CF hx2e hx3e hx3 hnext hlen hP hd2 hdn hq
      go_wp2_with (first
        | (refine wpList_lenB hsk rfl rfl rfl ?_)
        | (apply wpList_cutB hsk q (q + 16); rfl; rfl; rfl; exact .inr ⟨_, _, rfl, by omega⟩; exact .inr ⟨_, _, rfl, by omega⟩; exact .inl rfl; omega; omega; intro v' hr'; rw [HCUT.out] at hr')
        | (go_at_call 105; (with_reducible refine (C1.out _ _ _ (hr'.up hbs) hmk).mono ?_); rintro e w4 ⟨v4, rfl, ho4, hb4⟩; have hmk4 := hmk.next hb4; have s4 := hb4.size; have hdk4 := hdk.next hb4; have htk4 := htk.next hb4)
        | (go_at_call 49; refine (HCF'.out _ _ hdk4 (RdB.of_own ho4) htk4).mono ?_; rintro e w5 ⟨v5, rfl, ho5, hb5⟩; have hmk5 := hmk4.next hb5; have s5 := hb5.size)
        | (go_at_call 105; (with_reducible refine (C2.out _ _ _ (RdB.of_own ho5) hmk5).mono ?_); rintro e w6 ⟨v6, rfl, ho6, hb6⟩; have hown6 := own_next (own_next (own_next hown hb4) hb5) hb6; have s6 := hb6.size; have hmk6 := hmk5.next hb6)
        | (at_builtin; apply wpList_appendB hown6 (RdB.of_own ho6); rfl; rfl; rfl; rfl; (rw [HP.out.1, HX3.out]; have := HQ.out; omega); omega; intro v7 w7 ho7 hg7; have hmk7 := (RdB.grown_apart hmk6 hg7 hap).up hg7.size; have hb7 : Below w.heap.size w6 w7 := below_own hg7 hown6 (Nat.le_refl _) (by omega); have s7 := hb7.size)
        | (go_at_call 122; refine (C3.out _ _ hmk7).mono ?_; rintro e w8 ⟨v8, rfl, ho8, hb8⟩))
      go_roundw
      case rel => exact ⟨k + 1, by omega, by have := HQ.out; go_num, by rw [HDN.out]; exact RdB.of_own ho8, by rw [HN.out]; exact own_next ho7 hb8, fun g hg => own_apart ho8 (ho7.lt g hg).2, hbk.trans ((hb4.mono hbs).trans ((hb5.mono (by omega)).trans ((hb6.mono (by omega)).trans (hb7.trans (hb8.mono (by omega))))))⟩
      case measure => simp [intOf]; omega
    · have hql : l.length ≤ q := by have := HLN.out; omega
      clear hq
      go_wp2_with (first | (refine wpList_lenB hsk rfl rfl rfl ?_))
      go_ret
      obtain rfl : k = n := by omega
      exact ⟨_, rfl, hown, hbk⟩
end Go.Proofs.Ytfinekmegiengaa
