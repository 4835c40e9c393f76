/- The walk of layer 10's reference: bytes unwrapped. -/
import Derived.Test.YtfinekmegiengaaW10e
namespace Go.Proofs.Ytfinekmegiengaa
open Go.RowKit Nep
set_option maxRecDepth 100000
set_option linter.unusedVariables false
set_option linter.unusedSimpArgs false
set_option maxHeartbeats 2000000

/-- it returns what was wrapped, and whether it fits -/
def RetUB (p : List Nat × List (List Nat)) (w : World) (e : Ending) (w' : World) : Prop := ∃ v', e = .returned (.tuple #[v', .bool (decide (p.1 = ivA))]) ∧ RdB w'.heap.size w' v' p.2.flatten ∧ Below w.heap.size w w'

theorem runwrap_calls (v1 v2 v3 : Value) (key b t : List Nat) (n : Nat) (w : World) (hkb : Bytes key) (hr1 : RdB w.heap.size w v1 key) (h32 : key.length = 32) (hbb : Bytes b) (hr2 : RdB w.heap.size w v2 b) (hr3 : RdB w.heap.size w v3 t) (ht : t = sboxL) (hl : b.length = 8 * (n + 1)) (hn2 : 2 ≤ n) (hn32 : n ≤ 32) :
    Calls Try.prog 72 #[v1, v2, v3] w (RetUB (unT key b n) w) := by
  have hE := decE_blocks key h32 hkb
  have C3 : RowKit.Hid (∀ w, Calls Try.prog 125 #[.int .u8 166, .int .i64 8] w (RetS ivA w)) := Lib.hid (fun w => rfill_calls 166 8 rfl rfl (by omega) w)
  have CE : RowKit.Hid (∀ x, x.length = 16 → Bytes x → ∀ va w, RdB w.heap.size w v1 key → RdB w.heap.size w va x → RdB w.heap.size w v3 t → Calls Try.prog 49 #[v1, va, v3] w (RetS (decE key x) w)) := Lib.hid (fun x hx hxb va w a c d => by
    have h := rdec_calls v1 va v3 key x t w hkb a h32 hxb c hx d ht
    rwa [decE_eq key x h32 hkb] at h)
  have hst : St n (b.take 8, parts8 (b.drop 8) n) := st_parts (by rw [List.length_drop]; omega) (fun y hy => hbb y (List.mem_of_mem_drop hy)) ⟨by rw [List.length_take]; omega, fun y hy => hbb y (List.mem_of_mem_take hy)⟩
  unfold unT
  generalize decE key = E at *
  obtain ⟨p, hp⟩ : ∃ p : Nat → List Nat × List (List Nat), p = unAR E n (6 * n) (b.take 8, parts8 (b.drop 8) n) := ⟨_, rfl⟩
  have hpst : ∀ t, St n (p t) := fun t => by rw [hp]; exact unAR_st hE (by omega) hst t
  have hps : ∀ t, flatP (p (t + 1)) = refUn E (6 * n - t) ((6 * n - t - 1) % n) (flatP (p t)) := fun t => by rw [refUn_eq E (hpst t) (Nat.mod_lt _ (by omega)), hp]; rfl
  have hp0 : flatP (p 0) = [] ++ b := by
    rw [hp]
    show flatP (b.take 8, parts8 (b.drop 8) n) = b
    rw [flatP_parts (by rw [List.length_drop]; omega), List.take_append_drop]
  rw [show unAR E n (6 * n) (b.take 8, parts8 (b.drop 8) n) (6 * n) = p (6 * n) from by rw [hp]]
  have HE := Lib.hid hE
  have HST := Lib.hid hpst
  have HPS := Lib.hid hps
  have HP0 := Lib.hid hp0
  have HBL := Lib.hid hl
  have hbl : b.length ≤ 264 := by omega
  obtain ⟨n1, hn1⟩ : ∃ n1, n1 = n + 1 := ⟨_, rfl⟩
  have hdiv : (b.length : Int) / 8 = (n1 : Int) := by omega
  have en1 : IntKind.i64.wrap ((n1 : Int) - 1) = (n : Int) := by rw [IntWalk.i64_in _ (by omega)]; omega
  obtain ⟨m6, hm6⟩ : ∃ m6, m6 = 6 * n := ⟨_, rfl⟩
  have e0 : IntKind.i64.wrap (6 * (n : Int)) = (m6 : Int) := by rw [IntWalk.i64_in _ (by omega)]; omega
  rw [← hm6] at HPS ⊢
  have HM6 := Lib.hid hm6
  have hm6b : m6 ≤ 200 := by omega
  have hn1b : n1 ≤ 40 := by omega
  clear hE hst hpst hps hp0 hp hl h32 ht hn1 hm6
  go_enter Try.func72, Try.ntmps72
  have hr10 := hr1
  have hr20 := hr2
  have hr30 := hr3
  go_wp2_with (first
    | (apply wpList_buildB []; exact of_decide_eq_true rfl; rfl; rfl; rfl; intro g0 w0 hg01 hg02 hown0 hb0; replace hr2 := hr2.mono hb0)
    | (at_builtin; apply wpList_appendB hown0 hr2; rfl; rfl; rfl; rfl; simp; omega; exact hb0.size; intro v' w' hown' hgr'; have hb' := below_own hgr' hown0 (Nat.le_refl _) hb0.size; replace hr2 := hr20.mono (hb0.trans hb'))
    | (refine wpList_lenB hr2 rfl rfl rfl ?_))
  have hb01 : Below w.heap.size w w' := hb0.trans hb'
  rw [← HP0.out] at hown'
  clear hr1 hr2 hr3 hb0 hb' hgr' hown0
  go_loopw [8, 10] (fun s ii wr => ∃ j : Nat, j ≤ m6 ∧ ii = .int .i64 ((m6 - j : Nat) : Int) ∧ wr.ownsRow w.heap.size 5 1 s (flatP (p j)).length (bv (flatP (p j))) ∧ Below w.heap.size w wr) (fun _ ii _ => (intOf ii).toNat)
  case atStart => exact ⟨0, by omega, rfl, hown', hb01⟩
  case round =>
    obtain ⟨j, hj, rfl, hown, hbj⟩ := hrel
    clear hown' hb01 en1 e0 hdiv
    obtain ⟨j1, hj1⟩ : ∃ j1, j1 = m6 - j := ⟨_, rfl⟩
    rw [← hj1]
    by_cases hlt : j < m6
    · obtain ⟨t0, ht0⟩ : ∃ t0, t0 = m6 - j - 1 := ⟨_, rfl⟩
      obtain ⟨i, hi⟩ : ∃ i, i = t0 % n := ⟨_, rfl⟩
      have hin : i < n := by rw [hi]; exact Nat.mod_lt _ (by omega)
      have hlt' : (1 : Int) ≤ (j1 : Int) := by omega
      have e1 : IntKind.i64.wrap ((j1 : Int) - 1) = (t0 : Int) := by rw [IntWalk.i64_in _ (by omega)]; omega
      have e2 : Int.tmod (t0 : Int) (n : Int) = (i : Int) := by rw [hi]; exact Int.ofNat_tmod t0 n
      have hn0 : ¬ (n : Int) = 0 := by omega
      have HJ1 := Lib.hid hj1
      have HT0 := Lib.hid ht0
      have HI := Lib.hid hi
      have HLT := Lib.hid hlt
      have fle : decide ((1 : Int) ≤ (j1 : Int)) = true := by simp; omega
      have hj1b : j1 ≤ 200 := by omega
      have ht0b : t0 ≤ 200 := by omega
      clear hj1 hi hlt hj ht0
      go_wp2_with (first | (refine wpList_rem (i : Int) hn0 e2 rfl rfl rfl rfl ?_; clear hn0))
      obtain ⟨c, hc⟩ : ∃ c, c = 8 * (i + 1) := ⟨_, rfl⟩
      have eat : (8 : Int) * ((i : Int) + 1) = (c : Int) := by omega
      rw [eat]
      have hst := HST.out j
      have hLb := flatP_bytes hst
      have hLl := flatP_length hst
      have hstep := HPS.out j
      rw [← HT0.out, ← HI.out, ← HJ1.out] at hstep
      obtain ⟨L, hL⟩ : ∃ L, L = flatP (p j) := ⟨_, rfl⟩
      rw [← hL] at hLb hLl hstep hown
      have hs := RdB.of_own hown
      have hcn : c + 8 ≤ L.length := by omega
      obtain ⟨u1, hu1, hd1⟩ := run_cutTo hs 8 (by omega) (M := 8) rfl
      obtain ⟨u2, hu2, hd2⟩ := run_cutM hs c (c + 8) (by omega) hcn (N := (c : Int)) (M := (c : Int) + 8) rfl (by omega)
      obtain ⟨u3, hu3, hd3⟩ := run_cutM hs 8 c (by omega) (by omega) (N := 8) (M := (c : Int)) rfl rfl
      obtain ⟨u4, hu4, hd4⟩ := run_cutFrom hs (c + 8) hcn (M := (c : Int) + 8) (by omega)
      rw [show c + 8 - c = 8 from by omega] at hd2
      obtain ⟨x, hx⟩ : ∃ x, x = refUX E j1 i L := ⟨_, rfl⟩
      have hstep2 : flatP (p (j + 1)) = [] ++ x.take 8 ++ (L.drop 8).take (c - 8) ++ x.drop 8 ++ L.drop (c + 8) := by
        rw [hstep, hx]; unfold refUn
        rw [List.drop_take, hc, List.nil_append]
      unfold refUX at hx
      rw [← hc] at hx
      have ho1 : Oct (L.take 8) := ⟨by rw [List.length_take]; omega, fun y hy => hLb y (List.mem_of_mem_take hy)⟩
      have ho2 : Oct ((L.drop c).take 8) := ⟨by rw [List.length_take, List.length_drop]; omega, fun y hy => hLb y (List.mem_of_mem_drop (List.mem_of_mem_take hy))⟩
      have hl3 : ((L.drop 8).take (c - 8)).length ≤ 300 := by rw [List.length_take, List.length_drop]; omega
      have hl4 : (L.drop (c + 8)).length ≤ 300 := by rw [List.length_drop]; omega
      generalize L.take 8 = d1 at *
      generalize (L.drop c).take 8 = d2 at *
      generalize (L.drop 8).take (c - 8) = d3 at *
      generalize L.drop (c + 8) = d4 at *
      have CM : RowKit.Hid (∀ va w, RdB w.heap.size w va d1 → Calls Try.prog 131 #[va, .int .i64 (j1 : Int)] w (RetS (mix8 d1 j1) w)) := Lib.hid (fun va w h => rmixed10_calls va _ j1 rfl (by omega) w ho1.2 h ho1.1)
      have hmo : Oct (mix8 d1 j1) := mix8_blk d1 j1 ho1.1 ho1.2
      generalize mix8 d1 j1 = mm at *
      have hz := hmo.app ho2
      have hxb := HE.out _ hz.1 hz.2
      rw [← hx] at hxb
      have CX : RowKit.Hid (∀ va w, RdB w.heap.size w v1 key → RdB w.heap.size w va (mm ++ d2) → RdB w.heap.size w v3 t → Calls Try.prog 49 #[v1, va, v3] w (RetS x w)) := Lib.hid (fun va w a b c => hx ▸ CE.out (mm ++ d2) hz.1 hz.2 va w a b c)
      have hxt : (x.take 8).length = 8 := (oct_take hxb.1 hxb.2).1
      have hxd : (x.drop 8).length = 8 := (oct_drop hxb.1 hxb.2).1
      have HXL := Lib.hid hxb.1
      have HSTEP := Lib.hid hstep2
      have h2l := ho2.1
      have hml := hmo.1
      have hcb : c ≤ 300 := by omega
      have ec8 : IntKind.i64.wrap ((c : Int) + 8) = (c : Int) + 8 := IntWalk.i64_in _ (by omega)
      have hbs := hbj.size
      have hkr := hr10.next hbj
      have htr := hr30.next hbj
      clear hst hLb hLl hstep hL hown hs hcn hx hstep2 ho1 ho2 hz hxb hc eat hmo e1 e2
      go_region_held3 (fun w' => Below wr.heap.size wr.drew w')
        (first | exact Below.refl _ _ | exact (‹Below _ wr.drew _›).trans (hb7.mono (‹Below _ wr.drew _›).size) | exact (‹Below _ wr.drew _›).trans hb6 | exact (‹Below _ wr.drew _›).trans (hb5.mono (‹Below _ wr.drew _›).size))
        (first
          | (go_at_call 131; refine (CM.out _ _ (hd1.next (Below.drewn ‹Below _ wr.drew _›))).mono ?_; rintro e w5 ⟨v5, rfl, ho5, hb5⟩)
          | (apply step_appendB ho5 (hd2.next (Below.drewn ‹Below _ wr.drew _›)); rfl; rfl; rfl; rfl; rw [hml]; omega; exact hb5.size; intro v6 w6 ho6 hg6; have hb6 := below_own hg6 ho5 (by exact Nat.le_refl _) hb5.size)
          | (go_at_call 49; refine (CX.out _ _ (hkr.next (Below.drewn ‹Below _ wr.drew _›)) (RdB.of_own ho6) (htr.next (Below.drewn ‹Below _ wr.drew _›))).mono ?_; rintro e w7 ⟨v7, rfl, ho7, hb7⟩))
      have hS7 := Below.drewn (w := wr) ‹Below _ wr.drew w7›
      have hx7 := RdB.of_own ho7
      obtain ⟨y1, hy1, hf1⟩ := run_cutTo hx7 8 (by rw [HXL.out]; omega) (M := 8) rfl
      obtain ⟨y2, hy2, hf2⟩ := run_cutFrom hx7 8 (by rw [HXL.out]; omega) (M := 8) rfl
      have hd37 := hd3.next hS7
      have hd47 := hd4.next hS7
      clear hu1 hu2 hd1 hd2 hd3 hd4 hkr htr ho5 ho6 ho7 hb5 hb6 hb7 hg6 hx7 CX CM
      go_wp2_with fail
      go_region_held3 (fun w' => Below w7.heap.size w7.drew w')
        (first | exact Below.refl _ _ | exact (‹Below _ w7.drew _›).trans hb9 | exact (‹Below _ w7.drew _›).trans hb8 | exact (‹Below _ w7.drew _›).alloc (‹Below _ w7.drew _›).size _)
        (first
          | (apply step_appendB (own_lit0 w7.drew) (hf1.next (Below.drewn ‹Below _ w7.drew _›)); rfl; rfl; rfl; rfl; simp; omega; exact (‹Below _ w7.drew _›).size; intro v8 w8 ho8 hg8; have hb8 := below_own hg8 (own_lit0 w7.drew) (Nat.le_refl _) (‹Below _ w7.drew _›).size)
          | (apply step_appendB ho8 (hd37.next (Below.drewn ‹Below _ w7.drew _›)); rfl; rfl; rfl; rfl; rw [List.nil_append, hxt]; omega; exact (‹Below _ w7.drew _›).size; intro v9 w9 ho9 hg9; have hb9 := below_own hg9 ho8 (by exact Nat.le_refl _) (‹Below _ w7.drew _›).size))
      have hS9 := Below.drewn (w := w7) ‹Below _ w7.drew w9›
      have hf29 := hf2.next hS9
      have hd49 := hd47.mono hS9
      have s7 := hS7.size
      have s9 := hS9.size
      have hbw9 : Below w.heap.size w w9 := hbj.trans ((hS7.mono hbs).trans (hS9.mono (Nat.le_trans hbs s7)))
      have hw7 : w.heap.size ≤ w7.heap.size := Nat.le_trans hbs s7
      have e1 : IntKind.i64.wrap ((j1 : Int) - 1) = (t0 : Int) := by have := HJ1.out; have := HT0.out; have := HLT.out; rw [IntWalk.i64_in _ (by omega)]; omega
      clear hy1 hf1 hf2 hd37 hd47 hb8 ho8 hb9 hg9 hg8
      go_wp2_with (first
        | (at_builtin; apply wpList_appendB ho9 hf29; rfl; rfl; rfl; rfl; rw [List.length_append, List.nil_append, hxt, hxd]; omega; exact s9; intro v10 w10 ho10 hg10; have hb10 := below_own hg10 ho9 (Nat.le_refl _) s9; have hd410 : RdB w7.heap.size w10 u4 d4 := hd49.mono hb10)
        | (at_builtin; apply wpList_appendB ho10 hd410; rfl; rfl; rfl; rfl; rw [List.length_append, List.length_append, List.nil_append, hxt, hxd]; omega; exact Nat.le_trans s9 hb10.size; intro v11 w11 ho11 hg11; have hb11 := below_own hg11 ho10 (Nat.le_refl _) (Nat.le_trans s9 hb10.size)))
      go_roundw
      case rel => exact ⟨j + 1, by have := HLT.out; omega, by rw [show m6 - (j + 1) = t0 from by have := HT0.out; omega], by rw [HSTEP.out]; exact own_base ho11 hw7, hbw9.trans ((hb10.mono (by exact hw7)).trans (hb11.mono (by exact hw7)))⟩
      case measure => have := HLT.out; have := HJ1.out; have := HT0.out; simp [intOf]; omega
    · obtain rfl : j = m6 := by omega
      have hst := HST.out j
      have hLl := flatP_length hst
      obtain ⟨q, hq⟩ : ∃ q, q = p j := ⟨_, rfl⟩
      rw [← hq] at hst hown hLl
      have HQ := Lib.hid hq
      have hs := RdB.of_own hown
      obtain ⟨u1, hu1, hd1⟩ := run_cutTo hs 8 (by omega) (M := 8) rfl
      obtain ⟨u2, hu2, hd2⟩ := run_cutFrom hs 8 (by omega) (M := 8) rfl
      rw [show (flatP q).take 8 = q.1 from List.take_left' hst.1.1] at hd1
      rw [show (flatP q).drop 8 = q.2.flatten from List.drop_left' hst.1.1] at hd2
      have CS : RowKit.Hid (∀ va vb w, RdB w.heap.size w va q.1 → RdB w.heap.size w vb ivA → Calls Try.prog 43 #[va, vb] w (RetB (.bool (decide (q.1 = ivA))) w)) := Lib.hid (fun va vb w h1 h2 => same_calls va vb q.1 ivA w h1 h2 (by rw [hst.1.1]; omega))
      have hnle : ¬ ((1 : Int) ≤ (j1 : Int)) := by omega
      have fle : decide ((1 : Int) ≤ (j1 : Int)) = false := by simp; omega
      have hbs := hbj.size
      clear hst hLl hq hown hs hj1 hlt hj
      go_wp2_with fail
      go_region_held3 (fun w' => Below wr.heap.size wr.drew w')
        (first | exact Below.refl _ _ | exact (‹Below _ wr.drew _›).trans (hb6.mono (‹Below _ wr.drew _›).size) | exact (‹Below _ wr.drew _›).trans (hb5.mono (‹Below _ wr.drew _›).size))
        (first
          | (go_at_call 125; refine (C3.out _).mono ?_; rintro e w5 ⟨v5, rfl, ho5, hb5⟩)
          | (go_at_call 43; refine (CS.out _ _ _ (hd1.next (Below.drewn ‹Below _ wr.drew _›)) (RdB.of_own ho5)).mono ?_; rintro e w6 ⟨rfl, hb6⟩))
      have hS := Below.drewn (w := wr) ‹Below _ wr.drew w6›
      go_wp2_with fail
      go_ret2
      rw [← HQ.out]
      exact ⟨_, rfl, hd2.next hS, hbj.trans (hS.mono hbs)⟩
end Go.Proofs.Ytfinekmegiengaa
