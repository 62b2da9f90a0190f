/- The monitor's good and Good. -/
import Derived.Test.YtdheckfndldbmaaM05
namespace Go.Proofs.Ytdheckfndldbmaa
open Go.RowKit
attribute [local go_sem] merge_t merge_f merge_a merge_o

theorem good_of {xs : List E2} (hA : arenaOk xs = true) (e : E2) (kd : Int) : (ckT xs e && (decide (tagD xs e = 1) || (decide (tagD xs e = 2) && decide (kd = 4)))) = (tgd xs e 1 || (decide (kd = 4) && tgd xs e 2)) := by
  unfold tgd tagD ckT
  rw [hA]
  cases meantD xs e <;> simp [Bool.and_comm]

set_option maxRecDepth 100000 in
set_option maxHeartbeats 8000000 in
theorem mgood_c (B : Nat) (v : Value) (m : MonD) (kd : Int) (i : Nat) (s g : Int) (w : World) (hB : B ≤ 1000000) (hM : RMon B w v m) (hA : arenaOk m.slabs = true) (hi' : i < m.pinned.length) (hi2' : i < m.has.length) :
    Calls Try.prog 41 #[v, .agg #[.int .i64 kd, .int .i64 i, .int .i64 s, .int .u64 g]] w fun r w' => r = .returned (.bool (goodD m (kd, (i : Int), s, g))) ∧ Later w w' := by
  obtain ⟨A0, n0, c0, A1, n1, c1, A2, n2, c2, A3, n3, c3, rfl, hR0, hR1, hR2, -, hb, hc⟩ := hM
  obtain ⟨wb, hwb, hL, hz, f1, f2⟩ := box2 w #[.slice A0 n0 c0, .slice A1 n1 c1, .slice A2 n2 c2, .slice A3 n3 c3] 32 #[.int .i64 kd, .int .i64 i, .int .i64 s, .int .u64 g] 45
  have a0 := f1 0 (.slice A0 n0 c0) rfl
  have a1 := f1 1 (.slice A1 n1 c1) rfl
  have a2 := f1 2 (.slice A2 n2 c2) rfl
  have a3 := f1 3 (.slice A3 n3 c3) rfl
  have b0 := f2 0 (.int .i64 kd) rfl
  have b1 := f2 1 (.int .i64 i) rfl
  have b2 := f2 2 (.int .i64 s) rfl
  have b3 := f2 3 (.int .u64 g) rfl
  clear f1 f2
  have hi : i < n1 := by rw [← hR1.1]; exact hi'
  have hi2 : i < n2 := by rw [← hR2.1]; exact hi2'
  obtain ⟨p, po, rfl, x1⟩ := (hR1.later hL).atB i hi
  obtain ⟨q, qo, A', nr, c', rfl, x2, x3, x4, x5⟩ := (hR2.later hL).at i hi2
  have hl : nr ≤ 1000000 := by have := hb.2.2.2.2 _ (getD_mem (d := []) hi2'); have := x5.1; omega
  clear hi' hi2'
  obtain ⟨tg, htg⟩ : ∃ t, t = tagD m.slabs (s, g) := ⟨_, rfl⟩
  obtain ⟨mt, hmt⟩ : ∃ t, t = ckT m.slabs (s, g) := ⟨_, rfl⟩
  obtain ⟨pk, hpk⟩ : ∃ t, t = m.pinned[i]?.getD false := ⟨_, rfl⟩
  obtain ⟨hh, hhh⟩ : ∃ t, t = decide ((s, g) ∈ m.has[i]?.getD []) := ⟨_, rfl⟩
  have cT : Hid (∀ W, Later wb W → Calls Try.prog 12 #[.agg #[.slice A0 n0 c0], .agg #[.int .i64 s, .int .u64 g]] W fun r w' => r = .returned (.tuple #[.int .i64 tg, .bool mt]) ∧ Later W w') := fun W hW => by
    rw [htg, hmt]; exact tag_c A0 n0 c0 m.slabs s g W (by omega) (hR0.later (hL.trans hW))
  have cH : Hid (∀ W, Later wb W → Calls Try.prog 15 #[.slice A' nr c', .agg #[.int .i64 s, .int .u64 g]] W fun r w' => r = .returned (.bool hh) ∧ Later W w') := fun W hW => as_bool (containsE_c A' _ c' _ s g W (by omega) (x5.later hW)) hhh.symm
  have hn1 : n1 ≤ 1000000 := by omega
  have hn2 : n2 ≤ 1000000 := by omega
  rw [← hpk] at x1
  have HF : Hid (goodD m (kd, (i : Int), s, g) = ((pk && hh) && (mt && (decide (tg = 1) || (decide (tg = 2) && decide (kd = 4)))))) := by
    show _ = _
    rw [htg, hmt, good_of hA, goodD, hpk, hhh]; simp
  clear hR0 hR1 hR2 hb hc x3 x4 x5 htg hmt hpk hhh hA
  cases pk <;> cases hh <;> cases mt
  all_goals go_enter Try.func41, Try.ntmps41
  all_goals go_wp2_with (go_at_call 12; rw [hwb.out]; (with_reducible refine (cT.out _ (Later.refl _)).mono ?_); rintro e w1 ⟨rfl, hL1⟩)
  all_goals
    refine region_draw (S := Later wb) (af := ?_) (by kernel_rfl) (by kernel_rfl) (fun _ h => h.drew) hL1 ?_ ?_
    rotate_left
    · repeat (first
        | (refine SeqL.val (v := ?_) (by rfl) (fun W hW => ?_) ?_; rotate_left; (· (go_simp; try with_reducible rfl)); try simp only [Act.put, List.setIfInBounds_toArray, List.set_cons_zero, List.set_cons_succ])
        | (refine SeqL.skip (by rfl) ?_; try simp only [Act.put, List.setIfInBounds_toArray, List.set_cons_zero, List.set_cons_succ])
        | (refine SeqL.call (v := ?_) (f := ?_) (args := ?_) (by rfl) (fun W hW => ?_) (fun W hW => ?_) ?_; rotate_left 3; (· (go_simp; first | with_reducible rfl | (refine ⟨?_, ?_⟩ <;> with_reducible rfl))); (· ((with_reducible refine (cH.out W hW).mono ?_); rintro e W1 ⟨rfl, hL1⟩; refine ⟨?_, hW.trans hL1⟩; with_reducible rfl)); try simp only [Act.put, List.setIfInBounds_toArray, List.set_cons_zero, List.set_cons_succ])
        )
      exact SeqL.nil _
    intro w9 hL9
    go_wp2
    go_ret
    exact ⟨ret_bool (by rw [HF.out]; simp_all [beqd]), hL.trans hL9⟩

/-- a good touch of a monitor that may be -/
def touchD (m : MonD) (x : W4) : Bool := (decide (x.1 = 4) || decide (x.1 = 5)) && (monOk m && (decide (0 ≤ x.2.1) && (decide (x.2.1 < m.pinned.length) && goodD m x)))
theorem touchD_no {m : MonD} {x : W4} (h : (x.1 ≠ 4 ∧ x.1 ≠ 5) ∨ monOk m = false ∨ x.2.1 < 0 ∨ (m.pinned.length : Int) ≤ x.2.1) : touchD m x = false := by
  cases hb : touchD m x with
  | false => rfl
  | true =>
    simp only [touchD, Bool.and_eq_true, Bool.or_eq_true, decide_eq_true_eq] at hb
    rcases h with h | h | h | h
    · omega
    · rw [hb.2.1] at h; cases h
    · omega
    · omega
theorem touchD_is {m : MonD} {x : W4} (h1 : x.1 = 4 ∨ x.1 = 5) (h2 : monOk m = true) (h3 : 0 ≤ x.2.1) (h4 : x.2.1 < m.pinned.length) : touchD m x = goodD m x := by
  rw [touchD, h2, decide_eq_true h3, decide_eq_true h4]
  rcases h1 with h | h <;> rw [h] <;> rfl
/-- what a monitor that may be is made of -/
theorem monOk_parts {m : MonD} (h : monOk m = true) : arenaOk m.slabs = true ∧ 1 ≤ m.pinned.length ∧ m.pinned.length ≤ 8 ∧ m.has.length = m.pinned.length ∧ m.bad.length ≤ 16 ∧ rowsOk m.has m.pinned m.has.length = true ∧ m.bad.all (badOk m.pinned.length) = true := by
  simp only [monOk, Bool.and_eq_true, decide_eq_true_eq] at h
  exact ⟨h.1.1, h.1.2.1, h.1.2.2.1, h.1.2.2.2.1, h.1.2.2.2.2, h.2.1, h.2.2⟩

set_option maxRecDepth 100000 in
set_option maxHeartbeats 8000000 in
theorem mgoodX_c (B : Nat) (v : Value) (m : MonD) (kd gr s g : Int) (w : World) (hB : B ≤ 1000000) (hM : RMon B w v m) :
    Calls Try.prog 16 #[v, .agg #[.int .i64 kd, .int .i64 gr, .int .i64 s, .int .u64 g]] w fun r w' => r = .returned (.bool (touchD m (kd, gr, s, g))) ∧ Later w w' := by
  by_cases hkd : kd = 4 ∨ kd = 5
  case neg =>
    obtain ⟨A0, n0, c0, A1, n1, c1, A2, n2, c2, A3, n3, c3, rfl, hR0, hR1, hR2, hR3, hb, hc⟩ := hM
    obtain ⟨h4, h5⟩ : kd ≠ 4 ∧ kd ≠ 5 := by omega
    have HT : Hid (touchD m (kd, gr, s, g) = false) := touchD_no (.inl ⟨h4, h5⟩)
    clear hkd hR0 hR1 hR2 hR3 hb hc
    go_enter Try.func16, Try.ntmps16
    go_wp2
    all_goals go_ret
    all_goals exact ⟨ret_bool (by rw [HT.out]), ((Later.refl w).alloc _).alloc _⟩
  rcases hkd with rfl | rfl
  ·   have HM : Hid (RMon B w v m) := hM
      obtain ⟨A0, n0, c0, A1, n1, c1, A2, n2, c2, A3, n3, c3, rfl, hR0, hR1, hR2, hR3, hb, hc⟩ := hM
      obtain ⟨wb, hwb, hL, hz, f1, f2⟩ := box2 w #[.slice A0 n0 c0, .slice A1 n1 c1, .slice A2 n2 c2, .slice A3 n3 c3] 32 #[.int .i64 4, .int .i64 gr, .int .i64 s, .int .u64 g] 45
      have a0 := f1 0 (.slice A0 n0 c0) rfl
      have a1 := f1 1 (.slice A1 n1 c1) rfl
      have a2 := f1 2 (.slice A2 n2 c2) rfl
      have a3 := f1 3 (.slice A3 n3 c3) rfl
      have b0 := f2 0 (.int .i64 4) rfl
      have b1 := f2 1 (.int .i64 gr) rfl
      have b2 := f2 2 (.int .i64 s) rfl
      have b3 := f2 3 (.int .u64 g) rfl
      clear f1 f2
      have H1 : Hid (m.pinned.length = n1) := hR1.1
      have H2 : Hid (m.has.length = n2) := hR2.1
      have hn1 : n1 ≤ 1000000 := by omega
      have cK : Hid (∀ W, Later wb W → Calls Try.prog 20 #[.agg #[.slice A0 n0 c0, .slice A1 n1 c1, .slice A2 n2 c2, .slice A3 n3 c3]] W fun r w' => r = .returned (.int .i64 (ckM m)) ∧ Later W w') := fun W hW => mcheck_c B _ m W hB (HM.out.later (hL.trans hW))
      clear hR0 hR1 hR2 hR3 hb hc
      cases hOk : monOk m with
      | false =>
        have HT : Hid (touchD m (4, gr, s, g) = false) := touchD_no (.inr (.inl hOk))
        rw [show ckM m = 220 from ckM_bad hOk] at cK
        clear hOk
        go_enter Try.func16, Try.ntmps16
        go_wp2_with (go_at_call 20; rw [hwb.out]; (with_reducible refine (cK.out _ (Later.refl _)).mono ?_); rintro e w1 ⟨rfl, hL1⟩)
        all_goals go_ret
        all_goals first
          | exact ⟨ret_bool (by rw [HT.out]), hL.trans hL1⟩
          | exact ⟨ret_bool (by rw [HT.out]), by rw [hwb.out]; exact hL⟩
      | true =>
        rw [show ckM m = 0 from ckM_good hOk] at cK
        have HOk : Hid (monOk m = true) := hOk
        clear hOk
        by_cases hr : 0 ≤ gr ∧ gr < n1
        · obtain ⟨k, rfl⟩ := Int.eq_ofNat_of_zero_le hr.1
          have hk : k < n1 := by omega
          clear hr
          obtain ⟨gd, hgd⟩ : ∃ t, t = goodD m (4, (k : Int), s, g) := ⟨_, rfl⟩
          have HG : Hid (gd = goodD m (4, (k : Int), s, g)) := hgd
          have cG : Hid (∀ W, Later wb W → Calls Try.prog 41 #[.agg #[.slice A0 n0 c0, .slice A1 n1 c1, .slice A2 n2 c2, .slice A3 n3 c3], .agg #[.int .i64 4, .int .i64 k, .int .i64 s, .int .u64 g]] W fun r w' => r = .returned (.bool gd) ∧ Later W w') := fun W hW => by
            have hp := monOk_parts HOk.out
            exact as_bool (mgood_c B _ m 4 k s g W hB (HM.out.later (hL.trans hW)) hp.1 (by rw [H1.out]; exact hk) (by rw [hp.2.2.2.1, H1.out]; exact hk)) hgd.symm
          clear hgd
          go_enter Try.func16, Try.ntmps16
          go_wp2_with (first
            | (go_at_call 20; rw [hwb.out]; (with_reducible refine (cK.out _ (Later.refl _)).mono ?_); rintro e w1 ⟨rfl, hL1⟩)
            | (go_at_call 41; (with_reducible refine (cG.out _ hL1).mono ?_); rintro e w2 ⟨rfl, hL2⟩; replace hL2 := hL1.trans hL2))
          all_goals go_ret
          all_goals first
            | exact ⟨ret_bool (by rw [HG.out, touchD_is (by simp) HOk.out (by simp) (by rw [H1.out]; simp; omega)]), hL.trans hL2⟩
            | exact ⟨ret_bool (by rw [touchD_no (.inl (by simp))]), by rw [hwb.out]; exact hL⟩
        · have HT : Hid (touchD m (4, gr, s, g) = false) := touchD_no (.inr (.inr (by rw [H1.out]; simp only; omega)))
          go_enter Try.func16, Try.ntmps16
          go_wp2_with (go_at_call 20; rw [hwb.out]; (with_reducible refine (cK.out _ (Later.refl _)).mono ?_); rintro e w1 ⟨rfl, hL1⟩)
          all_goals try (exfalso; omega)
          all_goals go_ret
          all_goals first
            | exact ⟨ret_bool (by rw [HT.out]), hL.trans hL1⟩
            | exact ⟨ret_bool (by rw [HT.out]), by rw [hwb.out]; exact hL⟩
  ·   have HM : Hid (RMon B w v m) := hM
      obtain ⟨A0, n0, c0, A1, n1, c1, A2, n2, c2, A3, n3, c3, rfl, hR0, hR1, hR2, hR3, hb, hc⟩ := hM
      obtain ⟨wb, hwb, hL, hz, f1, f2⟩ := box2 w #[.slice A0 n0 c0, .slice A1 n1 c1, .slice A2 n2 c2, .slice A3 n3 c3] 32 #[.int .i64 5, .int .i64 gr, .int .i64 s, .int .u64 g] 45
      have a0 := f1 0 (.slice A0 n0 c0) rfl
      have a1 := f1 1 (.slice A1 n1 c1) rfl
      have a2 := f1 2 (.slice A2 n2 c2) rfl
      have a3 := f1 3 (.slice A3 n3 c3) rfl
      have b0 := f2 0 (.int .i64 5) rfl
      have b1 := f2 1 (.int .i64 gr) rfl
      have b2 := f2 2 (.int .i64 s) rfl
      have b3 := f2 3 (.int .u64 g) rfl
      clear f1 f2
      have H1 : Hid (m.pinned.length = n1) := hR1.1
      have H2 : Hid (m.has.length = n2) := hR2.1
      have hn1 : n1 ≤ 1000000 := by omega
      have cK : Hid (∀ W, Later wb W → Calls Try.prog 20 #[.agg #[.slice A0 n0 c0, .slice A1 n1 c1, .slice A2 n2 c2, .slice A3 n3 c3]] W fun r w' => r = .returned (.int .i64 (ckM m)) ∧ Later W w') := fun W hW => mcheck_c B _ m W hB (HM.out.later (hL.trans hW))
      clear hR0 hR1 hR2 hR3 hb hc
      cases hOk : monOk m with
      | false =>
        have HT : Hid (touchD m (5, gr, s, g) = false) := touchD_no (.inr (.inl hOk))
        rw [show ckM m = 220 from ckM_bad hOk] at cK
        clear hOk
        go_enter Try.func16, Try.ntmps16
        go_wp2_with (go_at_call 20; rw [hwb.out]; (with_reducible refine (cK.out _ (Later.refl _)).mono ?_); rintro e w1 ⟨rfl, hL1⟩)
        all_goals go_ret
        all_goals first
          | exact ⟨ret_bool (by rw [HT.out]), hL.trans hL1⟩
          | exact ⟨ret_bool (by rw [HT.out]), by rw [hwb.out]; exact hL⟩
      | true =>
        rw [show ckM m = 0 from ckM_good hOk] at cK
        have HOk : Hid (monOk m = true) := hOk
        clear hOk
        by_cases hr : 0 ≤ gr ∧ gr < n1
        · obtain ⟨k, rfl⟩ := Int.eq_ofNat_of_zero_le hr.1
          have hk : k < n1 := by omega
          clear hr
          obtain ⟨gd, hgd⟩ : ∃ t, t = goodD m (5, (k : Int), s, g) := ⟨_, rfl⟩
          have HG : Hid (gd = goodD m (5, (k : Int), s, g)) := hgd
          have cG : Hid (∀ W, Later wb W → Calls Try.prog 41 #[.agg #[.slice A0 n0 c0, .slice A1 n1 c1, .slice A2 n2 c2, .slice A3 n3 c3], .agg #[.int .i64 5, .int .i64 k, .int .i64 s, .int .u64 g]] W fun r w' => r = .returned (.bool gd) ∧ Later W w') := fun W hW => by
            have hp := monOk_parts HOk.out
            exact as_bool (mgood_c B _ m 5 k s g W hB (HM.out.later (hL.trans hW)) hp.1 (by rw [H1.out]; exact hk) (by rw [hp.2.2.2.1, H1.out]; exact hk)) hgd.symm
          clear hgd
          go_enter Try.func16, Try.ntmps16
          go_wp2_with (first
            | (go_at_call 20; rw [hwb.out]; (with_reducible refine (cK.out _ (Later.refl _)).mono ?_); rintro e w1 ⟨rfl, hL1⟩)
            | (go_at_call 41; (with_reducible refine (cG.out _ hL1).mono ?_); rintro e w2 ⟨rfl, hL2⟩; replace hL2 := hL1.trans hL2))
          all_goals go_ret
          all_goals first
            | exact ⟨ret_bool (by rw [HG.out, touchD_is (by simp) HOk.out (by simp) (by rw [H1.out]; simp; omega)]), hL.trans hL2⟩
            | exact ⟨ret_bool (by rw [touchD_no (.inl (by simp))]), by rw [hwb.out]; exact hL⟩
        · have HT : Hid (touchD m (5, gr, s, g) = false) := touchD_no (.inr (.inr (by rw [H1.out]; simp only; omega)))
          go_enter Try.func16, Try.ntmps16
          go_wp2_with (go_at_call 20; rw [hwb.out]; (with_reducible refine (cK.out _ (Later.refl _)).mono ?_); rintro e w1 ⟨rfl, hL1⟩)
          all_goals try (exfalso; omega)
          all_goals go_ret
          all_goals first
            | exact ⟨ret_bool (by rw [HT.out]), hL.trans hL1⟩
            | exact ⟨ret_bool (by rw [HT.out]), by rw [hwb.out]; exact hL⟩
end Go.Proofs.Ytdheckfndldbmaa
