/- The walk of layer 10: bytes, unwrapped. -/
import Derived.Test.YtfinekmegiengaaW10b
namespace Go.Proofs.Ytfinekmegiengaa
open Go.RowKit Nep
set_option maxRecDepth 100000
set_option linter.unusedVariables false
set_option linter.unusedSimpArgs false
set_option maxHeartbeats 2000000
attribute [local go_sem ↓] Go.wp_at_zero Go.wp_at_succ

theorem run_cutTo3 {B : Nat} {w : World} {v : Value} {l : List Nat} (h : RdB B w v l) (H : Nat) (hHn : H ≤ l.length) {M : Int} (hM : M = H) :
    ∃ v', (∀ W, (Instr.slice 28 v none (some (.int .i64 M)) (some (.int .i64 M))).run Try.prog W = .ok v' W) ∧ RdB B w v' (l.take H) := by
  subst hM
  obtain ⟨v', hr, hd⟩ := run_sliceS Try.underlying28 size_u8 h none (some (.int .i64 (H : Int))) (some (.int .i64 (H : Int))) 0 H (.inl ⟨rfl, rfl⟩) (.inr ⟨_, rfl⟩) (.inr ⟨_, H, rfl, Nat.le_refl _, hHn⟩) (Nat.zero_le _) hHn
  refine ⟨v', hr, ?_⟩
  unfold RdB
  rw [Nat.mul_one, Nat.mul_one, bv_drop, bv_take, List.drop_zero, Nat.sub_zero] at hd
  have hl : (l.take H).length = H := by rw [List.length_take]; omega
  rw [hl]
  exact hd
theorem run_cutL1 {B : Nat} {w : World} {v : Value} {L : List (List Nat)} (h : RdL B w v L) (i j : Nat) (hi : i < L.length) (hj : j = i + 1) :
    ∃ v', (∀ W, (Instr.slice 38 v (some (.int .i64 (i : Int))) (some (.int .i64 (j : Int))) none).run Try.prog W = .ok v' W) ∧ RdL B w v' [L.getD i []] := by
  subst hj
  obtain ⟨vs, h1, h2⟩ := h
  obtain ⟨v', hr, hd⟩ := run_sliceS Try.underlying38 size_bs h1 (some (.int .i64 (i : Int))) (some (.int .i64 ((i + 1 : Nat) : Int))) none i (i + 1) (.inr ⟨_, rfl⟩) (.inr ⟨_, rfl⟩) (.inl rfl) (by omega) (by omega)
  refine ⟨v', hr, (vs.drop i).take (i + 1 - i), ?_, ?_⟩
  · rw [Nat.mul_one, Nat.mul_one] at hd
    rw [show ([L.getD i []] : List (List Nat)).length = i + 1 - i from by simp]
    exact hd
  · have := h2.cut i (i + 1 - i)
    rwa [take1_getD L i hi] at this
theorem run_lenS (a : Option Addr) (n c : Nat) : ∀ W, (Builtin.len_ #[38] 3 #[.slice a n c]).run Try.prog W = .ok (.int .i64 n) W := fun W => by
  simp [Builtin.len_, goInt]
theorem cutTo_apart {B : Nat} {w : World} {v v' : Value} {l : List Nat} (h : RdB B w v l) (H : Nat) (hH : H ≤ l.length) {M : Int} (hM : M = H) (hr : (Instr.slice 28 v none (some (.int .i64 M)) none).run Try.prog w = .ok v' w) {g : Nat} (ha : Apart g v) : Apart g v' := by
  subst hM
  obtain ⟨_, a, c, rfl, hc, _⟩ := h
  obtain ⟨i, hi, hz, hs, hb⟩ := info_parts info_u8
  have e5 : H ≤ c := by omega
  have e6 : (H : Int) ≤ (c : Int) := by omega
  simp [Instr.slice, Instr.sliceBounds, Instr.sliceBound, asIntOf, run_underlying Try.underlying28, sizeOf, typeInfo, hi, hs, e5, e6] at hr
  subst hr
  intro ad n k he hn
  simp only [Value.slice.injEq] at he
  obtain ⟨h1, h2, h3⟩ := he
  cases a with
  | none => split at h1 <;> simp at h1
  | some a0 =>
    have hb0 : a0.block ≠ g := ha a0 _ _ rfl (by omega)
    split at h1
    · injection h1 with h1; rw [← h1]; exact hb0
    · simp only [Option.map_some, Option.some.injEq] at h1
      rw [← h1, blk_add]; exact hb0

theorem unwrap_bad (v1 v2 : Value) (key b : List Nat) (w : World) (hkb : Bytes key) (hr1 : RdB w.heap.size w v1 key) (hr2 : RdB w.heap.size w v2 b) (hbl : b.length ≤ 140737488351232) (h : ¬ (key.length = 32 ∧ 8 ≤ b.length ∧ WOk (b.length - 8))) : Calls Try.prog 71 #[v1, v2] w (RetE 2 w) := by
  by_cases h32 : key.length = 32
  · have C1 : RowKit.Hid (∀ w, RdB w.heap.size w v1 key → Calls Try.prog 37 #[v1] w (RetK (flatL key) w)) := Lib.hid (fun w h => new_calls v1 key w hkb h h32)
    generalize flatL key = rk at *
    by_cases h8 : 8 ≤ b.length
    · have hw : ¬ WOk (b.length - 8) := fun hw => h ⟨h32, h8, hw⟩
      have C2 : RowKit.Hid (∀ w, Calls Try.prog 127 #[.int .i64 ((b.length : Int) - 8)] w (RetP (.bool false) w)) := Lib.hid (fun w => wright_no (b.length - 8) (by omega) hw w)
      have f8 : decide ((b.length : Int) < 8) = false := by simp; omega
      have ew : IntKind.i64.wrap ((b.length : Int) - 8) = (b.length : Int) - 8 := IntWalk.i64_in _ (by omega)
      clear h h32 hw
      go_enter Try.func71, Try.ntmps71
      go_wp2_with (first
        | (go_at_call 37; refine (C1.out _ hr1).mono ?_; rintro e w1 ⟨p, rfl, hk1, hb1⟩; have hr2a := hr2.next hb1)
        | (refine wpList_lenB hr2a rfl rfl rfl ?_)
        | (go_at_call 127; refine (C2.out _).mono ?_; rintro e w2 ⟨rfl, rfl⟩))
      go_ret2
      exact ⟨rfl, hb1⟩
    · have f8 : decide ((b.length : Int) < 8) = true := by simp; omega
      clear h h32
      go_enter Try.func71, Try.ntmps71
      go_wp2_with (first
        | (go_at_call 37; refine (C1.out _ hr1).mono ?_; rintro e w1 ⟨p, rfl, hk1, hb1⟩; have hr2a := hr2.next hb1)
        | (refine wpList_lenB hr2a rfl rfl rfl ?_; clear hr2a))
      go_ret2
      exact ⟨rfl, hb1⟩
  · have C1 : RowKit.Hid (∀ w, RdB w.heap.size w v1 key → Calls Try.prog 37 #[v1] w (RetPE 2 w)) := Lib.hid (fun w h => new_short v1 key w h h32)
    clear h h32
    go_enter Try.func71, Try.ntmps71
    go_wp2_with (first
      | (go_at_call 37; refine (C1.out _ hr1).mono ?_; rintro e w1 ⟨rfl, hb1⟩))
    go_ret2
    exact ⟨rfl, hb1⟩

/-- it returns what was wrapped, or that it does not fit -/
def RetU (p : List Nat × List (List Nat)) (w : World) (e : Ending) (w' : World) : Prop := if p.1 = ivA then RetSE p.2.flatten w e w' else RetE 16 w e w'

theorem unwrap_calls (v1 v2 : Value) (key b : List Nat) (n : Nat) (w : World) (hkb : Bytes key) (hr1 : RdB w.heap.size w v1 key) (h32 : key.length = 32) (hbb : Bytes b) (hr2 : RdB w.heap.size w v2 b) (hl : b.length = 8 * (n + 1)) (hn2 : 2 ≤ n) (hn32 : n ≤ 32) :
    Calls Try.prog 71 #[v1, v2] w (RetU (unAR (decE key) n (6 * n) (b.take 8, parts8 (b.drop 8) n) (6 * n)) w) := by
  have hE := decE_blocks key h32 hkb
  have hdl : (b.drop 8).length = 8 * n := by rw [List.length_drop]; omega
  have hdb : Bytes (b.drop 8) := hbb.drop 8
  have C1 : RowKit.Hid (∀ w, RdB w.heap.size w v1 key → Calls Try.prog 37 #[v1] w (RetK (flatL key) w)) := Lib.hid (fun w h => new_calls v1 key w hkb h h32)
  have C2 : RowKit.Hid (∀ w, Calls Try.prog 127 #[.int .i64 ((b.length : Int) - 8)] w (RetP (.bool true) w)) := Lib.hid (fun w => wright_yes (b.length - 8) (by omega) ⟨by omega, by omega, by omega⟩ w)
  have C3 : RowKit.Hid (∀ w, Calls Try.prog 124 #[.int .u8 166, .int .i64 8] w (RetS ivA w)) := Lib.hid (fun w => fill_calls 166 8 rfl rfl (by omega) w)
  have C4 : RowKit.Hid (∀ va w, RdB w.heap.size w va (b.drop 8) → Calls Try.prog 128 #[va] w (RetL (parts8 (b.drop 8) n) w)) := Lib.hid (fun va w h => parts_calls va _ n w h hdl (by omega))
  have CE : RowKit.Hid (∀ x, x.length = 16 → Bytes x → ∀ p va w, KeyAt w.heap.size w p (flatL key) → RdB w.heap.size w va x → Calls Try.prog 48 #[p, va] w (RetSE (decE key x) w)) := Lib.hid (fun x hx hxb p va w hk h => decrypt_calls p va _ x w hk (flatL_length key h32 hkb) (flatL_bytes key h32 hkb) h hxb hx)
  have hoct : Oct (b.take 8) := ⟨by rw [List.length_take]; omega, hbb.take 8⟩
  have hst := st_parts (n := n) hdl hdb hoct
  generalize flatL key = rk at *
  generalize decE key = E at *
  obtain ⟨p, hp⟩ : ∃ p : Nat → List Nat × List (List Nat), p = unAR E n (6 * n) (b.take 8, parts8 (b.drop 8) n) := ⟨_, rfl⟩
  have hpst : ∀ t, St n (p t) := fun t => by rw [hp]; exact unAR_st hE (by omega) hst t
  have hps : ∀ t, p (t + 1) = unStep E (6 * n - t) ((6 * n - t - 1) % n) (p t) := fun t => by rw [hp]; rfl
  have hp0 : p 0 = (b.take 8, parts8 (b.drop 8) n) := by rw [hp]; rfl
  rw [show unAR E n (6 * n) (b.take 8, parts8 (b.drop 8) n) (6 * n) = p (6 * n) from by rw [hp]]
  have HE := Lib.hid hE
  have HST := Lib.hid hpst
  have HPS := Lib.hid hps
  have HP0 := Lib.hid hp0
  have hpl : (parts8 (b.drop 8) n).length = n := parts8_length _ _
  have HPL := Lib.hid hpl
  have HBL := Lib.hid hl
  have f8 : decide ((b.length : Int) < 8) = false := by simp; omega
  have h8 : 8 ≤ b.length := by omega
  have hbig : b.length ≤ 1000 := by omega
  have ew : IntKind.i64.wrap ((b.length : Int) - 8) = (b.length : Int) - 8 := IntWalk.i64_in _ (by omega)
  clear hE hst hpst hps hp0 hp hl h32 hpl hdl hdb hoct
  go_enter Try.func71, Try.ntmps71
  go_upto_region 4 with (first
    | (go_at_call 37; refine (C1.out _ hr1).mono ?_; rintro e w1 ⟨kp, rfl, hk1, hb1⟩; have hr2a := hr2.next hb1)
    | (refine wpList_lenB hr2a rfl rfl rfl ?_)
    | (go_at_call 127; refine (C2.out _).mono ?_; rintro e w2 ⟨rfl, rfl⟩))
  obtain ⟨ua, hua, hra⟩ := run_cutTo3 hr2a 8 h8 (M := 8) rfl
  obtain ⟨ub, hub, hrb⟩ := run_cutFrom hr2a 8 h8 (M := 8) rfl
  go_region_held3 (fun w' => Below w1.heap.size w1.drew w')
    (first | exact Below.refl _ _ | exact (‹Below _ w1.drew _›).trans (hb4.mono (‹Below _ w1.drew _›).size) | assumption)
    (first | (go_at_call 128; refine (C4.out _ _ (hrb.next (Below.refl _ _).drew)).mono ?_; rintro e w4 ⟨vr, rfl, hr4, hb4⟩))
  have s1 := hb1.size
  have s4 := hb4.size
  have hb4' := Below.drewn (w := w1) hb4
  have hk4 := hk1.mono hb4'
  have ha4 := hra.mono hb4'
  have hb14 : Below w.heap.size w w4 := hb1.trans (hb4'.mono s1)
  obtain ⟨B, hB⟩ : ∃ B, B = w1.heap.size := ⟨_, rfl⟩
  have hr4' : OwnL w1.heap.size w4 vr (parts8 (b.drop 8) n) := hr4
  have s4' : w1.heap.size ≤ w4.heap.size := s4
  rw [← hB] at hk4 ha4 hr4' s4' s1
  obtain ⟨gr, cr, hvr⟩ := hr4'.slice (by rw [HPL.out]; omega)
  rw [HPL.out] at hvr
  subst hvr
  have hgB : B ≤ gr := (hr4'.block_lt gr rfl).1
  have hap4 : Apart gr ua := ha4.apart hgB
  rw [show b.take 8 = (p 0).1 from by rw [HP0.out]] at ha4
  rw [show parts8 (b.drop 8) n = (p 0).2 from by rw [HP0.out]] at hr4'
  have ha4' := ha4.up s4'
  clear C1 C2 C4 hr1 hr2 hr2a hb1 hb4 hb4' hk1 s4 hB ha4 hr4 hua hub hra hrb
  go_wp2_with fail
  go_loopw [8, 10] (fun a jj wr => ∃ c : Nat, c ≤ 6 ∧ jj = .int .i64 (5 - (c : Int)) ∧ RdB wr.heap.size wr a (p (n * c)).1 ∧ Apart gr a ∧ OwnL B wr (.slice (some ⟨gr, 0, none⟩) n cr) (p (n * c)).2 ∧ Below B w4 wr) (fun _ jj _ => (intOf jj + 1).toNat)
  case atStart => exact ⟨0, by omega, rfl, ha4', hap4, hr4', Below.refl _ _⟩
  case round =>
    obtain ⟨c, hc, rfl, haj, hapj, hrj, hbj⟩ := hrel
    clear ha4' hap4 hr4'
    by_cases hlt : c < 6
    · have hpl2 := (HST.out (n * c)).2.1
      have HPL2 := Lib.hid hpl2
      clear hpl2
      go_wp2_with (first | (refine wpList_lenL hrj.rd rfl rfl rfl ?_; rw [HPL2.out]))
      go_loopw [8, 11] (fun a ii wr => ∃ d : Nat, d ≤ n ∧ ii = .int .i64 ((n : Int) - 1 - (d : Int)) ∧ RdB wr.heap.size wr a (p (n * c + d)).1 ∧ Apart gr a ∧ OwnL B wr (.slice (some ⟨gr, 0, none⟩) n cr) (p (n * c + d)).2 ∧ Below B w4 wr) (fun _ ii _ => (intOf ii + 1).toNat)
      case atStart => exact ⟨0, by omega, by go_num, haj, hapj, hrj, hbj⟩
      case round =>
        obtain ⟨d, hd, rfl, hai, hapi, hri, hbi⟩ := hrel
        clear haj hapj hrj hbj HPL2
        by_cases hin : d < n
        · obtain ⟨i, hi⟩ : ∃ i : Nat, i + d + 1 = n := ⟨n - 1 - d, by omega⟩
          have ei : (n : Int) - 1 - (d : Int) = (i : Int) := by omega
          obtain ⟨jc, hjc⟩ : ∃ jc : Nat, jc + c = 5 := ⟨5 - c, by omega⟩
          have ej : (5 : Int) - (c : Int) = (jc : Int) := by omega
          rw [ei, ej]
          obtain ⟨k, hk⟩ : ∃ k, k = n * c + d := ⟨_, rfl⟩
          obtain ⟨nj, hnj⟩ : ∃ nj, nj = n * jc := ⟨_, rfl⟩
          have h65 : n * jc + n * c = n * 5 := by rw [← Nat.mul_add, hjc]
          obtain ⟨t1, ht1⟩ : ∃ t1, t1 = nj + i + 1 := ⟨_, rfl⟩
          have hkt : 6 * n - k = t1 := by omega
          have hmod : (6 * n - k - 1) % n = i := by
            rw [hkt, ht1, Nat.add_sub_cancel, hnj, Nat.mul_add_mod, Nat.mod_eq_of_lt (by omega)]
          have hnext := HPS.out k
          rw [hmod, hkt] at hnext
          have hnt : n * c + (d + 1) = k + 1 := by omega
          rw [← hk] at hai hri
          have hst := HST.out k
          have hxb := unX_blk HE.out (t := t1) hst (show i < n by omega)
          obtain ⟨q, hq⟩ : ∃ q, q = p k := ⟨_, rfl⟩
          rw [← hq] at hai hri hst hxb hnext
          obtain ⟨hqa, hql, hqo⟩ := hst
          have hro := hqo.get (show i < q.2.length by omega)
          obtain ⟨ri, hri'⟩ : ∃ ri, ri = q.2.getD i [] := ⟨_, rfl⟩
          obtain ⟨x, hx⟩ : ∃ x, x = unX E t1 i q := ⟨_, rfl⟩
          rw [← hx] at hxb
          obtain ⟨m, hm⟩ : ∃ m, m = mix8 q.1 t1 := ⟨_, rfl⟩
          have hmo : Oct m := by rw [hm]; exact mix8_blk _ t1 hqa.1 hqa.2
          have hxe : x = E (m ++ ri) := by rw [hx, hri', hm]; rfl
          rw [← hri'] at hro
          have hz := hmo.app hro
          have hstep : p (k + 1) = (x.take 8, q.2.set i (x.drop 8)) := by rw [hnext, hx]; rfl
          have CJ : RowKit.Hid (∀ va vL w, RdB w.heap.size w va m → RdL w.heap.size w vL [ri] → Calls Try.prog 129 #[va, vL] w (RetS (m ++ ri) w)) := Lib.hid (fun va vL w h1 h2 => by
            have h := join_calls va vL m [ri] w h1 h2 (by rw [hmo.1]; omega) (fun y hy => by simp at hy; subst hy; rw [hro.1]; omega) (by simp)
            simpa using h)
          have CX := CE.out (m ++ ri) hz.1 hz.2
          rw [← hxe] at CX
          have HCX := Lib.hid CX
          have ht1b : t1 ≤ 100000 := by
            have := Nat.mul_le_mul hn32 (show jc ≤ 5 by omega)
            omega
          have CM : RowKit.Hid (∀ va w, RdB w.heap.size w va q.1 → Calls Try.prog 130 #[va, .int .i64 (t1 : Int)] w (RetS m w)) := Lib.hid (fun va w h => by rw [hm]; exact mixed10_calls va _ t1 rfl ht1b w hqa.2 h hqa.1)
          have hnj192 : nj ≤ 192 := by
            have := Nat.mul_le_mul hn32 (show jc ≤ 5 by omega)
            omega
          have HQL := Lib.hid hql
          have HSTEP := Lib.hid hstep
          have HNT := Lib.hid hnt
          have HXB := Lib.hid hxb
          have HQA := Lib.hid hqa
          have hbs := hbi.size
          have hBs : B ≤ wr.heap.size := by omega
          have hkr := (hk4.mono hbi).up hBs
          have hgrs := (hri.block_lt gr rfl).2
          have iq : i + 1 ≤ q.2.length := by omega
          have hin' : i < n := by omega
          have e1 : IntKind.i64.wrap ((n : Int) * (jc : Int)) = (nj : Int) := by rw [hnj, Int.natCast_mul]; exact IntWalk.i64_in _ (by rw [← Int.natCast_mul, ← hnj]; omega)
          have e2 : IntKind.i64.wrap ((nj : Int) + (i : Int)) = ((nj + i : Nat) : Int) := by rw [IntWalk.i64_in _ (by omega)]; omega
          have e3 : IntKind.i64.wrap (((nj + i : Nat) : Int) + 1) = (t1 : Int) := by rw [ht1, IntWalk.i64_in _ (by omega)]; omega
          obtain ⟨ni, hni0⟩ : ∃ ni, ni = nj + i := ⟨_, rfl⟩
          rw [← hni0] at e2 e3
          obtain ⟨i1, hi1⟩ : ∃ i1, i1 = i + 1 := ⟨_, rfl⟩
          have e4 : IntKind.i64.wrap ((i : Int) + 1) = (i1 : Int) := by rw [hi1, IntWalk.i64_in _ (by omega)]; omega
          have hni : (i : Int) < (n : Int) := by omega
          obtain ⟨vL, hvL, hL⟩ := run_cutL1 hri.rd i i1 (by omega) hi1
          rw [← hri'] at hL
          have hlr := run_lenS (some ⟨gr, 0, none⟩) n cr
          generalize hvR : Value.slice (some ⟨gr, 0, none⟩) n cr = vR at hri hlr hvL ⊢
          have HVR := Lib.hid hvR
          clear hvR
          have HI := Lib.hid hi
          have EI := Lib.hid ei
          clear hmod hnext hq hx hxe hri' hz hstep CX hnt hxb hql hk hnj ht1 hqa hqo hro h65 hkt hm hmo hni0 hi1 hjc ej ei hi
          go_wp2_with fail
          go_region_held3 (fun w' => Below wr.heap.size wr.drew w')
            (first | exact Below.refl _ _ | exact (‹Below _ wr.drew _›).trans (hb7.mono (‹Below _ wr.drew _›).size) | exact (‹Below _ wr.drew _›).trans (hb6.mono (‹Below _ wr.drew _›).size) | exact (‹Below _ wr.drew _›).trans (hb5.mono (‹Below _ wr.drew _›).size) | assumption)
            (first
              | (go_at_call 130; refine (CM.out _ _ (hai.next (Below.drewn ‹Below _ wr.drew _›))).mono ?_; rintro e w5 ⟨v5, rfl, ho5, hb5⟩)
              | (go_at_call 129; refine (CJ.out _ _ _ (RdB.of_own ho5) (hL.next (Below.drewn ‹Below _ wr.drew _›))).mono ?_; rintro e w6 ⟨v6, rfl, ho6, hb6⟩)
              | (go_at_call 48; refine (HCX.out _ _ _ (hkr.next (Below.drewn ‹Below _ wr.drew _›)) (RdB.of_own ho6)).mono ?_; rintro e w7 ⟨v7, rfl, ho7, hb7⟩))
          have s5 := hb5.size
          have s6 := hb6.size
          have s7 := hb7.size
          have hb57 : Below wr.heap.size wr w7 := (Below.drewn (w := wr) hb5).trans ((hb6.mono s5).trans (hb7.mono (Nat.le_trans s5 s6)))
          have hri7 := hri.next hb57
          have hvR := HVR.out
          subst hvR
          have hx7 := RdB.of_own ho7
          have hgr6 : gr < w6.heap.size := Nat.lt_of_lt_of_le hgrs (Nat.le_trans s5 s6)
          have hap7 := own_apart ho7 hgr6
          obtain ⟨u1, hu1, hru1⟩ := run_cutTo hx7 8 (by rw [HXB.out.1]; omega) (M := 8) rfl
          obtain ⟨u2, hu2, hru2⟩ := run_cutFrom hx7 8 (by rw [HXB.out.1]; omega) (M := 8) rfl
          have hap1 : Apart gr u1 := cutTo_apart hx7 8 (by rw [HXB.out.1]; omega) (M := 8) rfl (hu1 _) hap7
          have hap2 : Apart gr u2 := cutFrom_apart hx7 8 (by rw [HXB.out.1]; omega) (M := 8) rfl (hu2 _) hap7
          have hru2c := hru2
          obtain ⟨_, a2, c2, rfl, _, _⟩ := hru2c
          have e8 : (x.drop 8).length = 8 := by rw [List.length_drop, HXB.out.1]
          rw [e8] at hru2 hu2 hap2
          clear e8
          have hbw7 : Below B w4 w7.drew := (hbi.trans (hb57.mono hBs)).drew
          have hri7d : OwnL B w7.drew (.slice (some ⟨gr, 0, none⟩) n cr) q.2 := hri7
          have hru1d : RdB w7.drew.heap.size w7.drew u1 (x.take 8) := hru1
          have hru2d : RdB w7.drew.heap.size w7.drew (.slice a2 8 c2) (x.drop 8) := hru2
          clear hb5 hb6 hb7 hb57 hri hri7 hkr hai ho5 ho6 ho7 hlr hvL hL e1 e2 e3 e4 hx7 hap7 hbi hru1 hru2
          go_wp2_with fail
          go_still_tail 8, (by kernel_rfl)
          change wpList _ _ _ _ _ w7.drew
          generalize w7.drew = wd at *
          have hset := hri7d.set HQL.out hin' hru2d hap2
          have hv7 := hru1d.setCell_apart (p := ⟨gr, i, none⟩) (.slice a2 8 c2) hap1
          have hb8 : Below B w4 (wd.setCell ⟨gr, i, none⟩ (.slice a2 8 c2)) := hbw7.setCell (by exact hgB) _
          obtain ⟨⟨yo, hyo⟩, hfo⟩ := hri7d.cell HQL.out hin'
          clear hru1d hru2d hri7d hu1 hu2 hbw7
          go_wp2
          go_roundw
          case rel => exact ⟨d + 1, by omega, by rw [show (n : Int) - 1 - ((d + 1 : Nat) : Int) = (i : Int) - 1 from by have := HI.out; omega], by rw [HNT.out, HSTEP.out, size_setCell]; exact hv7, hap1, by rw [HNT.out, HSTEP.out]; exact hset, hb8⟩
          case measure => simp [intOf]
        · obtain rfl : d = n := by omega
          rw [show d * c + d = d * (c + 1) from by rw [Nat.mul_add, Nat.mul_one]] at hai hri
          go_wp2_with fail
          go_roundw
          case rel => exact ⟨c + 1, by omega, by go_num, hai, hapi, hri, hbi⟩
          case measure => simp [intOf]; omega
    · obtain rfl : c = 6 := by omega
      have hst := HST.out (n * 6)
      obtain ⟨q, hq⟩ : ∃ q, q = p (n * 6) := ⟨_, rfl⟩
      rw [← hq] at hst haj hrj
      have HQ := Lib.hid hq
      have hfit : q.1.length ≤ 140737488351232 := by rw [hst.1.1]; omega
      have CS : RowKit.Hid (∀ va vb w, RdB w.heap.size w va q.1 → RdB w.heap.size w vb ivA → Calls Try.prog 123 #[va, vb] w (RetB (.bool (decide (q.1 = ivA))) w)) := Lib.hid (fun va vb w h1 h2 => osame_calls va vb q.1 ivA w hst.1.2 ivA_oct.2 h1 h2 hfit)
      have CJ : RowKit.Hid (∀ vL w, RdL w.heap.size w vL q.2 → Calls Try.prog 129 #[.slice none 0 0, vL] w (RetS q.2.flatten w)) := Lib.hid (fun vL w h2 => by
        have h := join_calls (.slice none 0 0) vL [] q.2 w ⟨rfl, none, 0, rfl, Nat.le_refl _, fun i y hy => by simp [bv] at hy⟩ h2 (by simp) (fun y hy => by rw [(hst.2.2 y hy).1]; omega) (by rw [hst.2.1]; omega)
        exact h)
      clear hq hst hfit
      have hbs := hbj.size
      have hBs : B ≤ wr.heap.size := by omega
      have hwB : w.heap.size ≤ B := s1
      have hbw : Below w.heap.size w wr := hb14.trans (hbj.mono hwB)
      have hws := hbw.size
      clear hb14 hbj
      by_cases hok : q.1 = ivA
      · have fok : decide (q.1 = ivA) = true := by simp [hok]
        rw [fok] at CS
        have HOK := Lib.hid hok
        clear hok fok
        go_wp2_with (first
          | (go_at_call 124; refine (C3.out _).mono ?_; rintro e w5 ⟨v5, rfl, ho5, hb5⟩)
          | (go_at_call 123; refine (CS.out _ _ _ (haj.next hb5) (RdB.of_own ho5)).mono ?_; rintro e w6 ⟨rfl, hb6⟩)
          | (go_at_call 129; refine (CJ.out _ _ ((hrj.next hb5).next hb6).rd).mono ?_; rintro e w7 ⟨v7, rfl, ho7, hb7⟩))
        go_ret2
        unfold RetU
        rw [Nat.mul_comm 6 n, ← HQ.out, if_pos HOK.out]
        have s5 := hb5.size
        have s6 := hb6.size
        exact ⟨_, rfl, own_base ho7 (by omega), hbw.trans ((hb5.mono hws).trans ((hb6.mono (by omega)).trans (hb7.mono (by omega))))⟩
      · have fok : decide (q.1 = ivA) = false := by simp [hok]
        rw [fok] at CS
        have HOK := Lib.hid hok
        clear hok fok
        go_wp2_with (first
          | (go_at_call 124; refine (C3.out _).mono ?_; rintro e w5 ⟨v5, rfl, ho5, hb5⟩)
          | (go_at_call 123; refine (CS.out _ _ _ (haj.next hb5) (RdB.of_own ho5)).mono ?_; rintro e w6 ⟨rfl, hb6⟩))
        go_ret2
        unfold RetU
        rw [Nat.mul_comm 6 n, ← HQ.out, if_neg HOK.out]
        have s5 := hb5.size
        exact ⟨rfl, hbw.trans ((hb5.mono hws).trans (hb6.mono (by omega)))⟩
end Go.Proofs.Ytfinekmegiengaa
