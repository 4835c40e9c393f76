/- The walk of the law SlotKeys. -/
import Derived.Test.YtfinekmegiengaaL17d
import Derived.Test.YtfinekmegiengaaW17e
import Derived.Test.YtfinekmegiengaaW10f
namespace Go.Proofs.Ytfinekmegiengaa
open Go.RowKit Nep
set_option maxRecDepth 100000
set_option linter.unusedVariables false
set_option linter.unusedSimpArgs false
set_option maxHeartbeats 2000000

theorem skeys_long (v1 : Value) (kek : List Nat) (u : Bool) (s : Int) (e c : Nat) (av : Option Addr) (kk : Nat) (l : List Nat) (w : World) (hkb : Bytes kek) (hr1 : RdB w.heap.size w v1 kek) (hlb : Bytes l) (hr2 : RdB w.heap.size w (.slice av l.length kk) l) (f1 : decide ((1000 : Int) < (l.length : Int)) = true) : Calls Try.prog 24 #[v1, slotV u s e c (.slice av l.length kk)] w (RetB (.bool true) w) := by
  obtain ⟨v2, hv2⟩ : ∃ v2, v2 = slotV u s e c (.slice av l.length kk) := ⟨_, rfl⟩
  have HV2 := Lib.hid hv2
  rw [← hv2]
  clear hv2
  go_enter Try.func24, Try.ntmps24
  go_wp2_with (first
    | (apply wpList_boxR v2; rfl; rfl; rfl; intro g1 w1 hg1 hg1' hr3 hb1; rw [HV2.out] at hr3; have ha1 := hr2.next hb1; have hk1 := hr1.next hb1; obtain ⟨a0, a1, a2, a3, a4⟩ := row5 hr3)
    | (go_at_call 53; refine (awake17 _).mono ?_; rintro x w9 ⟨rfl, hb9⟩))
  go_ret
  exact RetB.mk rfl (hb1.trans (hb9.mono hb1.size))
theorem skeys_bad1 (v1 : Value) (kek : List Nat) (u : Bool) (s : Int) (e c : Nat) (av : Option Addr) (kk : Nat) (l : List Nat) (w : World) (hkb : Bytes kek) (hr1 : RdB w.heap.size w v1 kek) (hlb : Bytes l) (hr2 : RdB w.heap.size w (.slice av l.length kk) l) (f1 : decide ((1000 : Int) < (l.length : Int)) = false) (hok : slotOk u s e c l.length = false) : Calls Try.prog 24 #[v1, slotV u s e c (.slice av l.length kk)] w (RetB (.bool true) w) := by
  obtain ⟨v2, hv2⟩ : ∃ v2, v2 = slotV u s e c (.slice av l.length kk) := ⟨_, rfl⟩
  have HV2 := Lib.hid hv2
  rw [← hv2]
  clear hv2
  have CO : RowKit.Hid (∀ w, Calls Try.prog 52 #[.agg #[.bool u, .int .i64 s, .int .u64 (e : Int), .int .u64 (c : Int), .slice av l.length kk]] w (RetB (.agg #[.bool u, .int .i64 s, .int .u64 (e : Int), .int .u64 (c : Int), .slice av l.length kk]) w)) := Lib.hid (fun w => of_calls u s e c av l.length kk w)
  have CR : RowKit.Hid (∀ w, RdB w.heap.size w (.slice av l.length kk) l → Calls Try.prog 65 #[.agg #[.bool u, .int .i64 s, .int .u64 (e : Int), .int .u64 (c : Int), .slice av l.length kk]] w (RetB (.bool false) w)) := Lib.hid (fun w hh => by have h2 := rsright_calls u s e c (.slice av l.length kk) l w hh; rw [hok] at h2; exact h2)
  have CK : RowKit.Hid (∀ w, RdB w.heap.size w v1 kek → RdB w.heap.size w (.slice av l.length kk) l → Calls Try.prog 76 #[v1, .agg #[.bool u, .int .i64 s, .int .u64 (e : Int), .int .u64 (c : Int), .slice av l.length kk]] w (RetE 2 w)) := Lib.hid (fun w h1 h2 => keys_bad v1 kek u s e c av l.length kk l w h1 h2 (.inl hok))
  clear hok
  go_enter Try.func24, Try.ntmps24
  go_wp2_with (first
    | (apply wpList_boxR v2; rfl; rfl; rfl; intro g1 w1 hg1 hg1' hr3 hb1; rw [HV2.out] at hr3; have ha1 := hr2.next hb1; have hk1 := hr1.next hb1; obtain ⟨a0, a1, a2, a3, a4⟩ := row5 hr3)
    | (go_at_call 76; (with_reducible refine (CK.out _ hk1 ha1).mono ?_); rintro x w2 ⟨rfl, hb2⟩; have ha2 := ha1.next hb2; have hk2 := hk1.next hb2; have hr32 := hr3.next hb2; obtain ⟨b0, b1, b2, b3, b4⟩ := row5 hr32)
    | (go_at_call 52; (with_reducible refine (CO.out _).mono ?_); rintro x w3 ⟨rfl, hb3⟩; have ha3 := ha2.next hb3; have hk3 := hk2.next hb3; have hr33 := hr32.next hb3)
    | (go_at_call 65; (with_reducible refine (CR.out _ ha3).mono ?_); rintro x w4 ⟨rfl, hb4⟩; have ha4 := ha3.next hb4; have hk4 := hk3.next hb4; have hr34 := hr33.next hb4; obtain ⟨d0, d1, d2, d3, d4⟩ := row5 hr34)
    | (go_at_call 53; refine (awake17 _).mono ?_; rintro x w9 ⟨rfl, hb9⟩))
  go_ret
  have s1 := hb1.size
  have s2 := hb2.size
  have s3 := hb3.size
  have s4 := hb4.size
  exact RetB.mk rfl (hb1.trans ((hb2.mono s1).trans ((hb3.mono (by omega)).trans ((hb4.mono (by omega)).trans (hb9.mono (by omega))))))
theorem skeys_bad2 (v1 : Value) (kek : List Nat) (u : Bool) (s : Int) (e c : Nat) (av : Option Addr) (kk : Nat) (l : List Nat) (w : World) (hkb : Bytes kek) (hr1 : RdB w.heap.size w v1 kek) (hlb : Bytes l) (hr2 : RdB w.heap.size w (.slice av l.length kk) l) (f1 : decide ((1000 : Int) < (l.length : Int)) = false) (hok : slotOk u s e c l.length = true) (h32 : kek.length ≠ 32) : Calls Try.prog 24 #[v1, slotV u s e c (.slice av l.length kk)] w (RetB (.bool true) w) := by
  obtain ⟨v2, hv2⟩ : ∃ v2, v2 = slotV u s e c (.slice av l.length kk) := ⟨_, rfl⟩
  have HV2 := Lib.hid hv2
  rw [← hv2]
  clear hv2
  have CO : RowKit.Hid (∀ w, Calls Try.prog 52 #[.agg #[.bool u, .int .i64 s, .int .u64 (e : Int), .int .u64 (c : Int), .slice av l.length kk]] w (RetB (.agg #[.bool u, .int .i64 s, .int .u64 (e : Int), .int .u64 (c : Int), .slice av l.length kk]) w)) := Lib.hid (fun w => of_calls u s e c av l.length kk w)
  have CR : RowKit.Hid (∀ w, RdB w.heap.size w (.slice av l.length kk) l → Calls Try.prog 65 #[.agg #[.bool u, .int .i64 s, .int .u64 (e : Int), .int .u64 (c : Int), .slice av l.length kk]] w (RetB (.bool true) w)) := Lib.hid (fun w hh => by have h2 := rsright_calls u s e c (.slice av l.length kk) l w hh; rw [hok] at h2; exact h2)
  have CK : RowKit.Hid (∀ w, RdB w.heap.size w v1 kek → RdB w.heap.size w (.slice av l.length kk) l → Calls Try.prog 76 #[v1, .agg #[.bool u, .int .i64 s, .int .u64 (e : Int), .int .u64 (c : Int), .slice av l.length kk]] w (RetE 2 w)) := Lib.hid (fun w h1 h2 => keys_bad v1 kek u s e c av l.length kk l w h1 h2 (.inr h32))
  have f2 : ((kek.length : Int) != 32) = true := by simp; omega
  clear hok h32
  go_enter Try.func24, Try.ntmps24
  go_wp2_with (first
    | (apply wpList_boxR v2; rfl; rfl; rfl; intro g1 w1 hg1 hg1' hr3 hb1; rw [HV2.out] at hr3; have ha1 := hr2.next hb1; have hk1 := hr1.next hb1; obtain ⟨a0, a1, a2, a3, a4⟩ := row5 hr3)
    | (go_at_call 76; (with_reducible refine (CK.out _ hk1 ha1).mono ?_); rintro x w2 ⟨rfl, hb2⟩; have ha2 := ha1.next hb2; have hk2 := hk1.next hb2; have hr32 := hr3.next hb2; obtain ⟨b0, b1, b2, b3, b4⟩ := row5 hr32)
    | (go_at_call 52; (with_reducible refine (CO.out _).mono ?_); rintro x w3 ⟨rfl, hb3⟩; have ha3 := ha2.next hb3; have hk3 := hk2.next hb3; have hr33 := hr32.next hb3)
    | (go_at_call 65; (with_reducible refine (CR.out _ ha3).mono ?_); rintro x w4 ⟨rfl, hb4⟩; have ha4 := ha3.next hb4; have hk4 := hk3.next hb4; have hr34 := hr33.next hb4; obtain ⟨d0, d1, d2, d3, d4⟩ := row5 hr34)
    | (refine wpList_lenB hk4 rfl rfl rfl ?_; clear hk4)
    | (go_at_call 53; refine (awake17 _).mono ?_; rintro x w9 ⟨rfl, hb9⟩))
  go_ret
  have s1 := hb1.size
  have s2 := hb2.size
  have s3 := hb3.size
  have s4 := hb4.size
  exact RetB.mk rfl (hb1.trans ((hb2.mono s1).trans ((hb3.mono (by omega)).trans ((hb4.mono (by omega)).trans (hb9.mono (by omega))))))
theorem skeys_none (v1 : Value) (kek : List Nat) (s : Int) (e c : Nat) (av : Option Addr) (kk : Nat) (l : List Nat) (w : World) (hkb : Bytes kek) (hr1 : RdB w.heap.size w v1 kek) (hlb : Bytes l) (hr2 : RdB w.heap.size w (.slice av l.length kk) l) (f1 : decide ((1000 : Int) < (l.length : Int)) = false) (hok : slotOk false s e c l.length = true) (h32 : kek.length = 32) : Calls Try.prog 24 #[v1, slotV false s e c (.slice av l.length kk)] w (RetB (.bool true) w) := by
  obtain ⟨v2, hv2⟩ : ∃ v2, v2 = slotV false s e c (.slice av l.length kk) := ⟨_, rfl⟩
  have HV2 := Lib.hid hv2
  rw [← hv2]
  clear hv2
  have CO : RowKit.Hid (∀ w, Calls Try.prog 52 #[.agg #[.bool false, .int .i64 s, .int .u64 (e : Int), .int .u64 (c : Int), .slice av l.length kk]] w (RetB (.agg #[.bool false, .int .i64 s, .int .u64 (e : Int), .int .u64 (c : Int), .slice av l.length kk]) w)) := Lib.hid (fun w => of_calls false s e c av l.length kk w)
  have CR : RowKit.Hid (∀ w, RdB w.heap.size w (.slice av l.length kk) l → Calls Try.prog 65 #[.agg #[.bool false, .int .i64 s, .int .u64 (e : Int), .int .u64 (c : Int), .slice av l.length kk]] w (RetB (.bool true) w)) := Lib.hid (fun w hh => by have h2 := rsright_calls false s e c (.slice av l.length kk) l w hh; rw [hok] at h2; exact h2)
  have CK : RowKit.Hid (∀ w, RdB w.heap.size w v1 kek → RdB w.heap.size w (.slice av l.length kk) l → Calls Try.prog 76 #[v1, .agg #[.bool false, .int .i64 s, .int .u64 (e : Int), .int .u64 (c : Int), .slice av l.length kk]] w (RetE 12 w)) := Lib.hid (fun w h1 h2 => keys_none v1 kek s e c av l.length kk l w h1 h2 hok h32)
  have f2 : ((kek.length : Int) != 32) = false := by simp; omega
  clear hok h32
  go_enter Try.func24, Try.ntmps24
  go_wp2_with (first
    | (apply wpList_boxR v2; rfl; rfl; rfl; intro g1 w1 hg1 hg1' hr3 hb1; rw [HV2.out] at hr3; have ha1 := hr2.next hb1; have hk1 := hr1.next hb1; obtain ⟨a0, a1, a2, a3, a4⟩ := row5 hr3)
    | (go_at_call 76; (with_reducible refine (CK.out _ hk1 ha1).mono ?_); rintro x w2 ⟨rfl, hb2⟩; have ha2 := ha1.next hb2; have hk2 := hk1.next hb2; have hr32 := hr3.next hb2; obtain ⟨b0, b1, b2, b3, b4⟩ := row5 hr32)
    | (go_at_call 52; (with_reducible refine (CO.out _).mono ?_); rintro x w3 ⟨rfl, hb3⟩; have ha3 := ha2.next hb3; have hk3 := hk2.next hb3; have hr33 := hr32.next hb3)
    | (go_at_call 65; (with_reducible refine (CR.out _ ha3).mono ?_); rintro x w4 ⟨rfl, hb4⟩; have ha4 := ha3.next hb4; have hk4 := hk3.next hb4; have hr34 := hr33.next hb4; obtain ⟨d0, d1, d2, d3, d4⟩ := row5 hr34)
    | (refine wpList_lenB hk4 rfl rfl rfl ?_; clear hk4)
    | (go_at_call 53; refine (awake17 _).mono ?_; rintro x w9 ⟨rfl, hb9⟩))
  go_ret
  have s1 := hb1.size
  have s2 := hb2.size
  have s3 := hb3.size
  have s4 := hb4.size
  exact RetB.mk rfl (hb1.trans ((hb2.mono s1).trans ((hb3.mono (by omega)).trans ((hb4.mono (by omega)).trans (hb9.mono (by omega))))))
theorem skeys_yes (v1 : Value) (kek : List Nat) (s : Int) (e c : Nat) (av : Option Addr) (kk : Nat) (l : List Nat) (w : World) (hkb : Bytes kek) (hr1 : RdB w.heap.size w v1 kek) (hlb : Bytes l) (hr2 : RdB w.heap.size w (.slice av l.length kk) l) (f1 : decide ((1000 : Int) < (l.length : Int)) = false) (hok : slotOk true s e c l.length = true) (h32 : kek.length = 32) (hp : (unAR (decE kek) 12 (6 * 12) (l.take 8, parts8 (l.drop 8) 12) (6 * 12)).1 = ivA) : Calls Try.prog 24 #[v1, slotV true s e c (.slice av l.length kk)] w (RetB (.bool true) w) := by
  obtain ⟨v2, hv2⟩ : ∃ v2, v2 = slotV true s e c (.slice av l.length kk) := ⟨_, rfl⟩
  have HV2 := Lib.hid hv2
  rw [← hv2]
  clear hv2
  have hl104 : l.length = 8 * (12 + 1) := (slotOk_true.1 hok).2.2
  have CU : RowKit.Hid (∀ vt w, RdB w.heap.size w v1 kek → RdB w.heap.size w (.slice av l.length kk) l → RdB w.heap.size w vt sboxL → Calls Try.prog 72 #[v1, .slice av l.length kk, vt] w (RetUB (unAR (decE kek) 12 (6 * 12) (l.take 8, parts8 (l.drop 8) 12) (6 * 12)) w)) := Lib.hid (fun vt w a b d => runwrap_calls v1 (.slice av l.length kk) vt kek l sboxL 12 w hkb a h32 hlb b d rfl hl104 (by omega) (by omega))
  obtain ⟨P, hP⟩ : ∃ P, P = unAR (decE kek) 12 (6 * 12) (l.take 8, parts8 (l.drop 8) 12) (6 * 12) := ⟨_, rfl⟩
  have hK : ∀ w, RdB w.heap.size w v1 kek → RdB w.heap.size w (.slice av l.length kk) l → Calls Try.prog 71 #[v1, .slice av l.length kk] w (RetSE P.2.flatten w) := fun w a b => by
    have h := unwrap_calls v1 (.slice av l.length kk) kek l 12 w hkb a h32 hlb b hl104 (by omega) (by omega)
    rw [← hP, retU_yes (by rw [hP]; exact hp)] at h
    exact h
  have hpd : decide (P.1 = ivA) = true := by rw [hP]; simp [hp]
  have hPl : P.2.flatten.length ≤ 140737488351232 := by
    have h := wrapT_unT kek l 12 h32 hkb hl104 hlb (by omega) hp
    have h2 : P.2.flatten.length = 8 * 12 := by rw [hP]; exact h.1
    omega
  have QL := same_true P.2.flatten hPl
  have CO : RowKit.Hid (∀ w, Calls Try.prog 52 #[.agg #[.bool true, .int .i64 s, .int .u64 (e : Int), .int .u64 (c : Int), .slice av l.length kk]] w (RetB (.agg #[.bool true, .int .i64 s, .int .u64 (e : Int), .int .u64 (c : Int), .slice av l.length kk]) w)) := Lib.hid (fun w => of_calls true s e c av l.length kk w)
  have CR : RowKit.Hid (∀ w, RdB w.heap.size w (.slice av l.length kk) l → Calls Try.prog 65 #[.agg #[.bool true, .int .i64 s, .int .u64 (e : Int), .int .u64 (c : Int), .slice av l.length kk]] w (RetB (.bool true) w)) := Lib.hid (fun w hh => by have h2 := rsright_calls true s e c (.slice av l.length kk) l w hh; rw [hok] at h2; exact h2)
  have CK : RowKit.Hid (∀ w, RdB w.heap.size w v1 kek → RdB w.heap.size w (.slice av l.length kk) l → Calls Try.prog 76 #[v1, .agg #[.bool true, .int .i64 s, .int .u64 (e : Int), .int .u64 (c : Int), .slice av l.length kk]] w (RetSE P.2.flatten w)) := Lib.hid (fun w h1 h2 => keys_get v1 kek s e c av l.length kk l w hkb h1 hlb h2 hok h32 (fun w => RetSE P.2.flatten w) P.2.flatten 0 (by funext w; rfl) hK)
  rw [← hP] at CU
  have f2 : ((kek.length : Int) != 32) = false := by simp; omega
  have HPD := Lib.hid hpd
  clear hok h32 hp hP hK hpd hl104 hPl
  go_enter Try.func24, Try.ntmps24
  go_wp2_with (first
    | (apply wpList_boxR v2; rfl; rfl; rfl; intro g1 w1 hg1 hg1' hr3 hb1; rw [HV2.out] at hr3; have ha1 := hr2.next hb1; have hk1 := hr1.next hb1; obtain ⟨a0, a1, a2, a3, a4⟩ := row5 hr3)
    | (go_at_call 76; (with_reducible refine (CK.out _ hk1 ha1).mono ?_); rintro x w2 ⟨vr, rfl, ho2, hb2⟩; have ha2 := ha1.next hb2; have hk2 := hk1.next hb2; have hr32 := hr3.next hb2; obtain ⟨b0, b1, b2, b3, b4⟩ := row5 hr32)
    | (go_at_call 52; (with_reducible refine (CO.out _).mono ?_); rintro x w3 ⟨rfl, hb3⟩; have ha3 := ha2.next hb3; have hk3 := hk2.next hb3; have hr33 := hr32.next hb3)
    | (go_at_call 65; (with_reducible refine (CR.out _ ha3).mono ?_); rintro x w4 ⟨rfl, hb4⟩; have ha4 := ha3.next hb4; have hk4 := hk3.next hb4; have hr34 := hr33.next hb4; obtain ⟨d0, d1, d2, d3, d4⟩ := row5 hr34; have hk40 := hk4)
    | (refine wpList_lenB hk4 rfl rfl rfl ?_; clear hk4))
  obtain ⟨K0, K1, K2, K3, K4⟩ := row5_at hr34
  clear b0 b1 b2 b3 b4 d0 d1 d2 d3 d4 a0 a1 a2 a3 a4
  go_region_held3 (fun w' => Below w4.heap.size w4.drew w')
    (first | (with_reducible exact Below.refl _ _) | (with_reducible exact hS5) | (with_reducible exact hS6))
    (first
      | (go_at_call 40; refine (rtable_calls _).mono ?_; rintro x w5 ⟨vt, rfl, ht5, hb5⟩; have hS5 := below_call (w := w4) hb5 (by assumption))
      | (go_at_call 72; (with_reducible refine (CU.out _ _ (hk40.next (Below.drewn hS5)) (ha4.next (Below.drewn hS5)) (RdB.of_own ht5)).mono ?_); rintro x w6 ⟨v6, rfl, ho6, hb6⟩; rw [HPD.out]; have hS6 := below_call (w := w4) hb6 (by assumption)))
  all_goals
    have hH := Below.drewn hS6
    have ho26 := (((RdB.of_own ho2).next hb3).next hb4).next hH
    clear K0 K1 K2 K3 K4
    go_wp2_with (first
      | (go_at_call 43; (with_reducible refine (QL.out _ _ _ ho26 ho6).mono ?_); rintro x w8 ⟨rfl, hb8⟩)
      | (go_at_call 53; refine (awake17 _).mono ?_; rintro x w9 ⟨rfl, hb9⟩))
    go_ret
    have s1 := hb1.size
    have s2 := hb2.size
    have s3 := hb3.size
    have s4 := hb4.size
    have s5 := hH.size
    have s8 := hb8.size
    exact RetB.mk rfl (hb1.trans ((hb2.mono s1).trans ((hb3.mono (by omega)).trans ((hb4.mono (by omega)).trans ((hH.mono (by omega)).trans ((hb8.mono (by omega)).trans (hb9.mono (by omega))))))))
theorem skeys_no (v1 : Value) (kek : List Nat) (s : Int) (e c : Nat) (av : Option Addr) (kk : Nat) (l : List Nat) (w : World) (hkb : Bytes kek) (hr1 : RdB w.heap.size w v1 kek) (hlb : Bytes l) (hr2 : RdB w.heap.size w (.slice av l.length kk) l) (f1 : decide ((1000 : Int) < (l.length : Int)) = false) (hok : slotOk true s e c l.length = true) (h32 : kek.length = 32) (hp : (unAR (decE kek) 12 (6 * 12) (l.take 8, parts8 (l.drop 8) 12) (6 * 12)).1 ≠ ivA) : Calls Try.prog 24 #[v1, slotV true s e c (.slice av l.length kk)] w (RetB (.bool true) w) := by
  obtain ⟨v2, hv2⟩ : ∃ v2, v2 = slotV true s e c (.slice av l.length kk) := ⟨_, rfl⟩
  have HV2 := Lib.hid hv2
  rw [← hv2]
  clear hv2
  have hl104 : l.length = 8 * (12 + 1) := (slotOk_true.1 hok).2.2
  have CU : RowKit.Hid (∀ vt w, RdB w.heap.size w v1 kek → RdB w.heap.size w (.slice av l.length kk) l → RdB w.heap.size w vt sboxL → Calls Try.prog 72 #[v1, .slice av l.length kk, vt] w (RetUB (unAR (decE kek) 12 (6 * 12) (l.take 8, parts8 (l.drop 8) 12) (6 * 12)) w)) := Lib.hid (fun vt w a b d => runwrap_calls v1 (.slice av l.length kk) vt kek l sboxL 12 w hkb a h32 hlb b d rfl hl104 (by omega) (by omega))
  obtain ⟨P, hP⟩ : ∃ P, P = unAR (decE kek) 12 (6 * 12) (l.take 8, parts8 (l.drop 8) 12) (6 * 12) := ⟨_, rfl⟩
  have hK : ∀ w, RdB w.heap.size w v1 kek → RdB w.heap.size w (.slice av l.length kk) l → Calls Try.prog 71 #[v1, .slice av l.length kk] w (RetE 16 w) := fun w a b => by
    have h := unwrap_calls v1 (.slice av l.length kk) kek l 12 w hkb a h32 hlb b hl104 (by omega) (by omega)
    rw [← hP, retU_no (by rw [hP]; exact hp)] at h
    exact h
  have hpd : decide (P.1 = ivA) = false := by rw [hP]; simp [hp]
  have CO : RowKit.Hid (∀ w, Calls Try.prog 52 #[.agg #[.bool true, .int .i64 s, .int .u64 (e : Int), .int .u64 (c : Int), .slice av l.length kk]] w (RetB (.agg #[.bool true, .int .i64 s, .int .u64 (e : Int), .int .u64 (c : Int), .slice av l.length kk]) w)) := Lib.hid (fun w => of_calls true s e c av l.length kk w)
  have CR : RowKit.Hid (∀ w, RdB w.heap.size w (.slice av l.length kk) l → Calls Try.prog 65 #[.agg #[.bool true, .int .i64 s, .int .u64 (e : Int), .int .u64 (c : Int), .slice av l.length kk]] w (RetB (.bool true) w)) := Lib.hid (fun w hh => by have h2 := rsright_calls true s e c (.slice av l.length kk) l w hh; rw [hok] at h2; exact h2)
  have CK : RowKit.Hid (∀ w, RdB w.heap.size w v1 kek → RdB w.heap.size w (.slice av l.length kk) l → Calls Try.prog 76 #[v1, .agg #[.bool true, .int .i64 s, .int .u64 (e : Int), .int .u64 (c : Int), .slice av l.length kk]] w (RetE 16 w)) := Lib.hid (fun w h1 h2 => keys_get v1 kek s e c av l.length kk l w hkb h1 hlb h2 hok h32 (fun w => RetE 16 w) P.2.flatten 16 (by funext w; rw [if_neg (by decide)]) hK)
  rw [← hP] at CU
  have f2 : ((kek.length : Int) != 32) = false := by simp; omega
  have HPD := Lib.hid hpd
  clear hok h32 hp hP hK hpd hl104
  go_enter Try.func24, Try.ntmps24
  go_wp2_with (first
    | (apply wpList_boxR v2; rfl; rfl; rfl; intro g1 w1 hg1 hg1' hr3 hb1; rw [HV2.out] at hr3; have ha1 := hr2.next hb1; have hk1 := hr1.next hb1; obtain ⟨a0, a1, a2, a3, a4⟩ := row5 hr3)
    | (go_at_call 76; (with_reducible refine (CK.out _ hk1 ha1).mono ?_); rintro x w2 ⟨rfl, hb2⟩; have ha2 := ha1.next hb2; have hk2 := hk1.next hb2; have hr32 := hr3.next hb2; obtain ⟨b0, b1, b2, b3, b4⟩ := row5 hr32)
    | (go_at_call 52; (with_reducible refine (CO.out _).mono ?_); rintro x w3 ⟨rfl, hb3⟩; have ha3 := ha2.next hb3; have hk3 := hk2.next hb3; have hr33 := hr32.next hb3)
    | (go_at_call 65; (with_reducible refine (CR.out _ ha3).mono ?_); rintro x w4 ⟨rfl, hb4⟩; have ha4 := ha3.next hb4; have hk4 := hk3.next hb4; have hr34 := hr33.next hb4; obtain ⟨d0, d1, d2, d3, d4⟩ := row5 hr34; have hk40 := hk4)
    | (refine wpList_lenB hk4 rfl rfl rfl ?_; clear hk4))
  obtain ⟨K0, K1, K2, K3, K4⟩ := row5_at hr34
  clear b0 b1 b2 b3 b4 d0 d1 d2 d3 d4 a0 a1 a2 a3 a4
  go_region_held3 (fun w' => Below w4.heap.size w4.drew w')
    (first | (with_reducible exact Below.refl _ _) | (with_reducible exact hS5) | (with_reducible exact hS6))
    (first
      | (go_at_call 40; refine (rtable_calls _).mono ?_; rintro x w5 ⟨vt, rfl, ht5, hb5⟩; have hS5 := below_call (w := w4) hb5 (by assumption))
      | (go_at_call 72; (with_reducible refine (CU.out _ _ (hk40.next (Below.drewn hS5)) (ha4.next (Below.drewn hS5)) (RdB.of_own ht5)).mono ?_); rintro x w6 ⟨v6, rfl, ho6, hb6⟩; rw [HPD.out]; have hS6 := below_call (w := w4) hb6 (by assumption)))
  all_goals
    have hH := Below.drewn hS6
    clear K0 K1 K2 K3 K4
    go_wp2_with (first
      | (go_at_call 53; refine (awake17 _).mono ?_; rintro x w9 ⟨rfl, hb9⟩))
    go_ret
    have s1 := hb1.size
    have s2 := hb2.size
    have s3 := hb3.size
    have s4 := hb4.size
    have s5 := hH.size
    exact RetB.mk rfl (hb1.trans ((hb2.mono s1).trans ((hb3.mono (by omega)).trans ((hb4.mono (by omega)).trans ((hH.mono (by omega)).trans (hb9.mono (by omega)))))))
theorem slotKeys_walk (v1 : Value) (kek : List Nat) (u : Bool) (s : Int) (e c : Nat) (av : Option Addr) (kk : Nat) (l : List Nat) (w : World) (hkb : Bytes kek) (hr1 : RdB w.heap.size w v1 kek) (hlb : Bytes l) (hr2 : RdB w.heap.size w (.slice av l.length kk) l) : Calls Try.prog 24 #[v1, slotV u s e c (.slice av l.length kk)] w (RetB (.bool true) w) := by
  by_cases h1 : 1000 < l.length
  · exact skeys_long v1 kek u s e c av kk l w hkb hr1 hlb hr2 (by simp; omega)
  · have f1 : decide ((1000 : Int) < (l.length : Int)) = false := by simp; omega
    cases hok : slotOk u s e c l.length with
    | false => exact skeys_bad1 v1 kek u s e c av kk l w hkb hr1 hlb hr2 f1 hok
    | true =>
      by_cases h32 : kek.length = 32
      · cases u with
        | false => exact skeys_none v1 kek s e c av kk l w hkb hr1 hlb hr2 f1 hok h32
        | true =>
          by_cases hp : (unAR (decE kek) 12 (6 * 12) (l.take 8, parts8 (l.drop 8) 12) (6 * 12)).1 = ivA
          · exact skeys_yes v1 kek s e c av kk l w hkb hr1 hlb hr2 f1 hok h32 hp
          · exact skeys_no v1 kek s e c av kk l w hkb hr1 hlb hr2 f1 hok h32 hp
      · exact skeys_bad2 v1 kek u s e c av kk l w hkb hr1 hlb hr2 f1 hok h32
end Go.Proofs.Ytfinekmegiengaa
