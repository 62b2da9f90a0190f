/- The monitor's Check. | The monitor's Same. -/
import Derived.Test.YtdheckfndldbmaaM04
namespace Go.Proofs.Ytdheckfndldbmaa
open Go.RowKit
attribute [local go_sem] merge_t merge_f merge_a merge_o

theorem cf_badOk (args : Array Value) (W : World) : (callFunc 43 args).run Try.prog W = .ok (.enter 43 args) W := by go_simp
set_option maxHeartbeats 400000 in
theorem wrong_c (b : Nat) (n : Int) (x1 x2 x3 x4 : Int) (w : World) (hc : ∀ W, Later w W → W.cell? ⟨b, 0, none⟩ = some (.int .i64 n)) :
    Calls Try.prog 43 (#[.agg #[.int .i64 x1, .int .i64 x2, .int .i64 x3, .int .u64 x4]] ++ #[.pointer (some ⟨b, 0, none⟩)]) w fun r w' => r = .returned (.bool (!badOk n (x1, x2, x3, x4))) ∧ Later w w' := by
  cases hE : entryOk (x3, x4) with
  | false =>
    have cE : Hid (∀ W, Calls Try.prog 44 #[.agg #[.int .i64 x3, .int .u64 x4]] W fun r w' => r = .returned (.bool false) ∧ Later W w') := fun W => as_bool (mentry_c _ _ W) hE
    have HE : Hid (∀ y1 y2, badOk n (y1, y2, x3, x4) = false) := fun _ _ => badOk_bad (.inr (.inr (.inr hE)))
    clear hE
    go_enter Try.func43, Try.ntmps43
    go_wp2_with (go_at_call 44; (with_reducible refine (cE.out _).mono ?_); rintro e w1 ⟨rfl, hL1⟩)
    all_goals go_ret
    all_goals first
      | exact ⟨ret_bool (by rw [HE.out]; first | rfl | (simp; omega)), ((Later.refl w).alloc _).trans hL1⟩
      | exact ⟨ret_bool (by rw [HE.out]; first | rfl | (simp; omega)), (Later.refl w).alloc _⟩
  | true =>
    have cE : Hid (∀ W, Calls Try.prog 44 #[.agg #[.int .i64 x3, .int .u64 x4]] W fun r w' => r = .returned (.bool true) ∧ Later W w') := fun W => as_bool (mentry_c _ _ W) hE
    have HE : Hid (entryOk (x3, x4) = true) := hE
    clear hE
    go_enter Try.func43, Try.ntmps43
    go_wp2_with (go_at_call 44; (with_reducible refine (cE.out _).mono ?_); rintro e w1 ⟨rfl, hL1⟩)
    all_goals go_ret
    all_goals first
      | exact ⟨ret_bool (by rw [badOk_good (by simp; omega) (by simp; omega) (by simp; omega) HE.out]; first | rfl | (simp; omega)), ((Later.refl w).alloc _).trans hL1⟩
      | exact ⟨ret_bool (by rw [badOk_bad (by first | exact .inl (by simp; omega) | exact .inr (.inl (by simp; omega)) | exact .inr (.inr (.inl (by simp; omega))))]; rfl), (Later.refl w).alloc _⟩

def ckM (m : MonD) : Int := if monOk m then 0 else 220
theorem ckM_bad {m : MonD} (h : monOk m = false) : ckM m = 220 := by simp [ckM, h]
theorem ckM_good {m : MonD} (h : monOk m = true) : ckM m = 0 := by simp [ckM, h]

set_option maxRecDepth 100000 in
set_option maxHeartbeats 4000000 in
theorem mcheck_c (B : Nat) (v : Value) (m : MonD) (w : World) (hB : B ≤ 1000000) (hM : RMon B w v m) :
    Calls Try.prog 20 #[v] w fun r w' => r = .returned (.int .i64 (ckM m)) ∧ Later w w' := by
  obtain ⟨A0, n0, c0, A1, n1, c1, A2, n2, c2, A3, n3, c3, rfl, hR0, hR1, hR2, hR3, hb, hc⟩ := hM
  obtain ⟨wb, hwb, hL, hz, f1, f2⟩ := box2 w #[.slice A0 n0 c0, .slice A1 n1 c1, .slice A2 n2 c2, .slice A3 n3 c3] 32 #[.int .i64 n1] 3
  have a0 := f1 0 (.slice A0 n0 c0) rfl
  have a1 := f1 1 (.slice A1 n1 c1) rfl
  have a2 := f1 2 (.slice A2 n2 c2) rfl
  have a3 := f1 3 (.slice A3 n3 c3) rfl
  have b0 := f2 0 (.int .i64 n1) rfl
  clear f1 f2
  have HR0 : Hid (Rd 2 encE wb A0 n0 m.slabs) := hR0.later hL
  have HR1 : Hid (Rd 1 encB wb A1 n1 m.pinned) := hR1.later hL
  have HR2 : Hid (RdR wb A2 n2 m.has) := hR2.later hL
  have HR3 : Hid (Rd 4 encW wb A3 n3 m.bad) := hR3.later hL
  have H1 : Hid (m.pinned.length = n1) := hR1.1
  have H2 : Hid (m.has.length = n2) := hR2.1
  have H3 : Hid (m.bad.length = n3) := hR3.1
  have Hb : Hid (∀ l ∈ m.has, l.length ≤ B) := hb.2.2.2.2
  have hn0 : n0 ≤ 1000000 := by omega
  have hn1 : n1 ≤ 1000000 := by omega
  have hn2 : n2 ≤ 1000000 := by omega
  have hn3 : n3 ≤ 1000000 := by omega
  clear hR0 hR1 hR2 hR3 hb hc
  have cC : Hid (∀ W, Later wb W → Calls Try.prog 45 #[.slice A3 n3 c3, .func (.func 43) #[] #[.pointer (some ⟨w.heap.size + 1, 0, none⟩)]] W fun r w' => r = .returned (.bool (m.bad.any fun x => !badOk n1 x)) ∧ Later W w') := fun W hW =>
    containsfW_c A3 n3 c3 m.bad (fun x => !badOk n1 x) _ _ W (by omega) (HR3.out.later hW) cf_badOk fun x _ W' hW' => wrong_c (w.heap.size + 1) n1 x.1 x.2.1 x.2.2.1 x.2.2.2 W' (celw (hW.trans hW') b0)
  cases hA : arenaOk m.slabs with
  | false =>
    have cA : Hid (∀ W, Later wb W → Calls Try.prog 34 #[.agg #[.slice A0 n0 c0]] W fun r w' => r = .returned (.int .i64 210) ∧ Later W w') := fun W hW => by
      have := acheck_c A0 n0 c0 m.slabs W (by omega) (HR0.out.later hW)
      rwa [show ckA m.slabs = 210 by simp [ckA, hA]] at this
    have HA : Hid (ckM m = 220) := ckM_bad (monOk_head H1.out H2.out H3.out (.inl hA))
    clear hA
    go_enter Try.func20, Try.ntmps20
    go_wp2
    go_step3
    go_wp2_with (go_at_call 34; rw [hwb.out]; (with_reducible refine (cA.out _ (Later.refl _)).mono ?_); rintro e w1 ⟨rfl, hL1⟩)
    rw [Exit.noGoto_ret]
    go_ret
    exact ⟨ret_int HA.out.symm, hL.trans hL1⟩
  | true =>
    have cA : Hid (∀ W, Later wb W → Calls Try.prog 34 #[.agg #[.slice A0 n0 c0]] W fun r w' => r = .returned (.int .i64 0) ∧ Later W w') := fun W hW => by
      have := acheck_c A0 n0 c0 m.slabs W (by omega) (HR0.out.later hW)
      rwa [show ckA m.slabs = 0 by simp [ckA, hA]] at this
    have HA : Hid (arenaOk m.slabs = true) := hA
    clear hA
    by_cases he : n2 = n1
    · subst he
      cases hB1 : m.bad.any fun x => !badOk n2 x with
      | true =>
        have cC : Hid (∀ W, Later wb W → Calls Try.prog 45 #[.slice A3 n3 c3, .func (.func 43) #[] #[.pointer (some ⟨w.heap.size + 1, 0, none⟩)]] W fun r w' => r = .returned (.bool true) ∧ Later W w') := fun W hW => as_bool (cC.out W hW) hB1
        have HA : Hid (ckM m = 220) := ckM_bad (monOk_bads (by rw [H1.out, List.all_eq_not_any_not, hB1]; rfl))
        clear hB1
        go_enter Try.func20, Try.ntmps20
        go_wp2
        go_step3
        go_wp2_with (first
          | (go_at_call 34; rw [hwb.out]; (with_reducible refine (cA.out _ (Later.refl _)).mono ?_); rintro e w1 ⟨rfl, hL1⟩)
          | (go_at_call 45; (with_reducible refine (cC.out _ hL1).mono ?_); rintro e w2 ⟨rfl, hL2⟩))
        all_goals try rw [Exit.noGoto_ret]
        all_goals go_ret
        all_goals first
          | exact ⟨ret_int HA.out.symm, hL.trans (hL1.trans hL2)⟩
          | exact ⟨ret_int HA.out.symm, hL.trans hL1⟩
      | false =>
        have cC : Hid (∀ W, Later wb W → Calls Try.prog 45 #[.slice A3 n3 c3, .func (.func 43) #[] #[.pointer (some ⟨w.heap.size + 1, 0, none⟩)]] W fun r w' => r = .returned (.bool false) ∧ Later W w') := fun W hW => as_bool (cC.out W hW) hB1
        have HB1 : Hid (m.bad.all (badOk n2) = true) := by show _ = _; rw [List.all_eq_not_any_not, hB1]; rfl
        clear hB1
        go_enter Try.func20, Try.ntmps20
        go_wp2
        go_step3
        go_wp2_with (first
          | (go_at_call 34; rw [hwb.out]; (with_reducible refine (cA.out _ (Later.refl _)).mono ?_); rintro e w1 ⟨rfl, hL1⟩)
          | (go_at_call 45; (with_reducible refine (cC.out _ hL1).mono ?_); rintro e w2 ⟨rfl, hL2⟩))
        · have hlo : 1 ≤ (n2 : Int) := by omega
          have hhi : (n2 : Int) ≤ 8 := by omega
          have hba : (n3 : Int) ≤ 16 := by omega
          have hL3 : Later wb w2 := hL1.trans hL2
          clear hL1 hL2
          go_step3
          go_wp2
          go_loopw [5, 48] (fun o i wr => ∃ k : Nat, k ≤ n2 ∧ o = .bool true ∧ i = .int .i64 k ∧ rowsOk m.has m.pinned k = true ∧ Later wb wr) (fun _ i _ => n2 - (intOf i).toNat)
          case atStart => exact ⟨0, Nat.zero_le _, rfl, rfl, rfl, hL3⟩
          case round =>
            obtain ⟨k, hk, rfl, rfl, hro, hLw⟩ := hrel
            have Hro : Hid (rowsOk m.has m.pinned k = true) := hro
            clear hro
            by_cases hlt : k < n2
            · obtain ⟨q, qo, A', nr, c', rfl, x2, x3, x4, x5⟩ := HR2.out.at k hlt
              obtain ⟨p, po, rfl, x1⟩ := HR1.out.atB k hlt
              have hl : nr ≤ 1000000 := by have := Hb.out _ (getD_mem (d := []) (k := k) (by rw [H2.out]; exact hlt)); have := x5.1; omega
              generalize hX : m.has[k]?.getD [] = xs at x5
              generalize hP : m.pinned[k]?.getD false = pk at x1
              have HX : Hid (m.has[k]?.getD [] = xs) := hX
              have HP : Hid (m.pinned[k]?.getD false = pk) := hP
              have HRx : Hid (Rd 2 encE wb A' nr xs) := x5
              have Hx : Hid (xs.length = nr) := x5.1
              have Hbadrow : Hid (rowP xs pk = false → ckM m = 220) := fun h => ckM_bad (monOk_rows (rowsOk_le (k := k) (by rw [H2.out]; exact hlt) (by rw [HX.out, HP.out]; exact h)))
              clear hX hP x5
              go_wp2
              go_loopw [5, 55] (fun o i wr => ∃ j : Nat, j ≤ nr ∧ o = .bool true ∧ i = .int .i64 j ∧ (∀ x ∈ xs.take j, (!entryOk x) = false) ∧ (xs.take j).Nodup ∧ (0 < j → pk = true) ∧ Later wb wr) (fun _ i _ => nr - (intOf i).toNat)
              case atStart => exact ⟨0, Nat.zero_le _, rfl, rfl, by simp, by simp, by omega, hLw⟩
              case round =>
                obtain ⟨j, hj, rfl, rfl, hne, hnd, hpk, hLv⟩ := hrel
                have Hne : Hid (∀ x ∈ xs.take j, (!entryOk x) = false) := hne
                have Hnd : Hid (xs.take j).Nodup := hnd
                have Hpk : Hid (0 < j → pk = true) := hpk
                clear hne hnd hpk
                by_cases hjt : j < nr
                · obtain ⟨b, off, rfl, e0, e1⟩ := HRx.out.atE j hjt
                  obtain ⟨wc, hwc, hL2, _, f2, _⟩ := box1 wr #[.int .i64 (xs[j]?.getD (0, 0)).1, .int .u64 (xs[j]?.getD (0, 0)).2] 43
                  have z0 := f2 0 (.int .i64 (xs[j]?.getD (0, 0)).1) rfl
                  have z1 := f2 1 (.int .u64 (xs[j]?.getD (0, 0)).2) rfl
                  have z2 := celw (hLv.trans hL2) a1
                  have z3 := celw (hLv.trans hL2) x1
                  clear f2
                  have hkc : j ≤ c' := by omega
                  cases pk with
                  | false =>
                    have HA : Hid (ckM m = 220) := Hbadrow.out (by rw [rowP, decide_eq_false (by rw [Hx.out]; omega)]; simp)
                    go_wp2
                    rw [hwc.out]
                    refine region_draw (S := Later wc) (af := ?_) (by kernel_rfl) (by kernel_rfl) (fun _ h => h.drew) (Later.refl _) ?_ ?_
                    rotate_left
                    · repeat (first
                        | (refine SeqL.val (v := ?_) (by rfl) (fun W hW => ?_) ?_; rotate_left; (· (go_simp; try with_reducible rfl)); try simp only [Act.put, List.setIfInBounds_toArray, List.set_cons_zero, List.set_cons_succ])
                        | (refine SeqL.skip (by rfl) ?_; try simp only [Act.put, List.setIfInBounds_toArray, List.set_cons_zero, List.set_cons_succ])
                        )
                      exact SeqL.nil _
                    intro w3 hL3
                    go_wp2
                    rw [Exit.noGoto_ret]
                    go_ret
                    exact ⟨ret_int HA.out.symm, hL.trans (hLv.trans (hL2.trans hL3))⟩
                  | true =>
                    cases hE : entryOk (xs[j]?.getD (0, 0)) with
                    | false =>
                      have cE : Hid (∀ W, Calls Try.prog 44 #[.agg #[.int .i64 (xs[j]?.getD (0, 0)).1, .int .u64 (xs[j]?.getD (0, 0)).2]] W fun r w' => r = .returned (.bool false) ∧ Later W w') := fun W => as_bool (mentry_c _ _ W) hE
                      have HA : Hid (ckM m = 220) := Hbadrow.out (by rw [rowP, rowOk_bad1 (by rw [Hx.out]; exact hjt) hE]; rfl)
                      clear hE
                      go_wp2
                      rw [hwc.out]
                      refine region_draw (S := Later wc) (af := ?_) (by kernel_rfl) (by kernel_rfl) (fun _ h => h.drew) (Later.refl _) ?_ ?_
                      rotate_left
                      · repeat (first
                          | (refine SeqL.val (v := ?_) (by rfl) (fun W hW => ?_) ?_; rotate_left; (· (go_simp; try with_reducible rfl)); try simp only [Act.put, List.setIfInBounds_toArray, List.set_cons_zero, List.set_cons_succ])
                          | (refine SeqL.skip (by rfl) ?_; try simp only [Act.put, List.setIfInBounds_toArray, List.set_cons_zero, List.set_cons_succ])
                          | (refine SeqL.call (v := ?_) (f := ?_) (args := ?_) (by rfl) (fun W hW => ?_) (fun W hW => ?_) ?_; rotate_left 3; (· (go_simp; first | with_reducible rfl | (refine ⟨?_, ?_⟩ <;> with_reducible rfl))); (· ((with_reducible refine (cE.out W).mono ?_); rintro e W1 ⟨rfl, hL1⟩; refine ⟨?_, hW.trans hL1⟩; with_reducible rfl)); try simp only [Act.put, List.setIfInBounds_toArray, List.set_cons_zero, List.set_cons_succ])
                          )
                        exact SeqL.nil _
                      intro w3 hL3
                      go_wp2
                      rw [Exit.noGoto_ret]
                      go_ret
                      exact ⟨ret_int HA.out.symm, hL.trans (hLv.trans (hL2.trans hL3))⟩
                    | true =>
                      have cE : Hid (∀ W, Calls Try.prog 44 #[.agg #[.int .i64 (xs[j]?.getD (0, 0)).1, .int .u64 (xs[j]?.getD (0, 0)).2]] W fun r w' => r = .returned (.bool true) ∧ Later W w') := fun W => as_bool (mentry_c _ _ W) hE
                      have HE : Hid (entryOk (xs[j]?.getD (0, 0)) = true) := hE
                      clear hE
                      by_cases hin : xs[j]?.getD (0, 0) ∈ xs.take j
                      · have cH : Hid (∀ W, Later wc W → Calls Try.prog 15 #[.slice (some ⟨b, off, none⟩) j c', .agg #[.int .i64 (xs[j]?.getD (0, 0)).1, .int .u64 (xs[j]?.getD (0, 0)).2]] W fun r w' => r = .returned (.bool true) ∧ Later W w') := fun W hW =>
                          as_bool (containsE_c (some ⟨b, off, none⟩) j c' (xs.take j) (xs[j]?.getD (0, 0)).1 (xs[j]?.getD (0, 0)).2 W (by omega) ((HRx.out.take j hj).later (hLv.trans (hL2.trans hW)))) (decide_eq_true hin)
                        have HA : Hid (ckM m = 220) := Hbadrow.out (by rw [rowP, rowOk_bad2 (by rw [Hx.out]; exact hjt) hin]; rfl)
                        clear hin
                        go_wp2
                        rw [hwc.out]
                        refine region_draw (S := Later wc) (af := ?_) (by kernel_rfl) (by kernel_rfl) (fun _ h => h.drew) (Later.refl _) ?_ ?_
                        rotate_left
                        · repeat (first
                            | (refine SeqL.val (v := ?_) (by rfl) (fun W hW => ?_) ?_; rotate_left; (· (go_simp; try with_reducible rfl)); try simp only [Act.put, List.setIfInBounds_toArray, List.set_cons_zero, List.set_cons_succ])
                            | (refine SeqL.skip (by rfl) ?_; try simp only [Act.put, List.setIfInBounds_toArray, List.set_cons_zero, List.set_cons_succ])
                            | (refine SeqL.call (v := ?_) (f := ?_) (args := ?_) (by rfl) (fun W hW => ?_) (fun W hW => ?_) ?_; rotate_left 3; (· (go_simp; first | with_reducible rfl | (refine ⟨?_, ?_⟩ <;> with_reducible rfl))); (· ((with_reducible refine (cE.out W).mono ?_); rintro e W1 ⟨rfl, hL1⟩; refine ⟨?_, hW.trans hL1⟩; with_reducible rfl)); try simp only [Act.put, List.setIfInBounds_toArray, List.set_cons_zero, List.set_cons_succ])
                            | (refine SeqL.call (v := ?_) (f := ?_) (args := ?_) (by rfl) (fun W hW => ?_) (fun W hW => ?_) ?_; rotate_left 3; (· (go_simp; first | with_reducible rfl | (refine ⟨?_, ?_⟩ <;> with_reducible rfl))); (· ((with_reducible refine (cH.out W hW).mono ?_); rintro e W1 ⟨rfl, hL1⟩; refine ⟨?_, hW.trans hL1⟩; with_reducible rfl)); try simp only [Act.put, List.setIfInBounds_toArray, List.set_cons_zero, List.set_cons_succ])
                            )
                          exact SeqL.nil _
                        intro w3 hL3
                        go_wp2
                        rw [Exit.noGoto_ret]
                        go_ret
                        exact ⟨ret_int HA.out.symm, hL.trans (hLv.trans (hL2.trans hL3))⟩
                      · have cH : Hid (∀ W, Later wc W → Calls Try.prog 15 #[.slice (some ⟨b, off, none⟩) j c', .agg #[.int .i64 (xs[j]?.getD (0, 0)).1, .int .u64 (xs[j]?.getD (0, 0)).2]] W fun r w' => r = .returned (.bool false) ∧ Later W w') := fun W hW =>
                          as_bool (containsE_c (some ⟨b, off, none⟩) j c' (xs.take j) (xs[j]?.getD (0, 0)).1 (xs[j]?.getD (0, 0)).2 W (by omega) ((HRx.out.take j hj).later (hLv.trans (hL2.trans hW)))) (decide_eq_false hin)
                        have Hin : Hid (xs[j]?.getD (0, 0) ∉ xs.take j) := hin
                        clear hin
                        go_wp2
                        rw [hwc.out]
                        refine region_draw (S := Later wc) (af := ?_) (by kernel_rfl) (by kernel_rfl) (fun _ h => h.drew) (Later.refl _) ?_ ?_
                        rotate_left
                        · repeat (first
                            | (refine SeqL.val (v := ?_) (by rfl) (fun W hW => ?_) ?_; rotate_left; (· (go_simp; try with_reducible rfl)); try simp only [Act.put, List.setIfInBounds_toArray, List.set_cons_zero, List.set_cons_succ])
                            | (refine SeqL.skip (by rfl) ?_; try simp only [Act.put, List.setIfInBounds_toArray, List.set_cons_zero, List.set_cons_succ])
                            | (refine SeqL.call (v := ?_) (f := ?_) (args := ?_) (by rfl) (fun W hW => ?_) (fun W hW => ?_) ?_; rotate_left 3; (· (go_simp; first | with_reducible rfl | (refine ⟨?_, ?_⟩ <;> with_reducible rfl))); (· ((with_reducible refine (cE.out W).mono ?_); rintro e W1 ⟨rfl, hL1⟩; refine ⟨?_, hW.trans hL1⟩; with_reducible rfl)); try simp only [Act.put, List.setIfInBounds_toArray, List.set_cons_zero, List.set_cons_succ])
                            | (refine SeqL.call (v := ?_) (f := ?_) (args := ?_) (by rfl) (fun W hW => ?_) (fun W hW => ?_) ?_; rotate_left 3; (· (go_simp; first | with_reducible rfl | (refine ⟨?_, ?_⟩ <;> with_reducible rfl))); (· ((with_reducible refine (cH.out W hW).mono ?_); rintro e W1 ⟨rfl, hL1⟩; refine ⟨?_, hW.trans hL1⟩; with_reducible rfl)); try simp only [Act.put, List.setIfInBounds_toArray, List.set_cons_zero, List.set_cons_succ])
                            )
                          exact SeqL.nil _
                        intro w3 hL3
                        go_wp2
                        go_roundw
                        case rel => exact ⟨j + 1, by omega, rfl, by go_num, take_snoc_all (fun x => !entryOk x) xs (0, 0) j (by rw [Hx.out]; exact hjt) Hne.out (by rw [HE.out]; rfl), nodup_snoc (by rw [Hx.out]; exact hjt) Hnd.out Hin.out, by simp, hLv.trans (hL2.trans hL3)⟩
                        case measure => simp [intOf]; omega
                · have Hok : Hid (rowP xs pk = true) := by
                    have h1 : rowOk xs = true := rowOk_good (k := j) (by rw [Hx.out]; omega) Hne.out Hnd.out
                    show _ = _
                    rw [rowP, h1]
                    rcases Nat.eq_zero_or_pos j with h0 | h0
                    · rw [decide_eq_true (show xs.length = 0 by rw [Hx.out]; omega)]; simp
                    · rw [Hpk.out h0]; rfl
                  go_wp2
                  go_roundw
                  case rel => exact ⟨k + 1, by omega, rfl, by go_num, by rw [rowsOk_succ, Hro.out, HX.out, HP.out, Hok.out]; rfl, hLv⟩
                  case measure => simp [intOf]; omega
            · have HG : Hid (ckM m = 0) := ckM_good (monOk_good H1.out H2.out H3.out HA.out hlo hhi rfl hba (by rw [show n2 = k by omega]; exact Hro.out) HB1.out)
              go_wp2
              rw [Exit.noGoto_ret]
              go_ret
              exact ⟨ret_int HG.out.symm, hL.trans hLw⟩
        all_goals go_ret
        all_goals first
          | exact ⟨ret_int (ckM_bad (monOk_head H1.out H2.out H3.out (.inr (by omega)))).symm, hL.trans (hL1.trans hL2)⟩
          | exact ⟨ret_int (ckM_bad (monOk_head H1.out H2.out H3.out (.inr (by omega)))).symm, hL.trans hL1⟩
    · have hne : ((n2 : Int) != n1) = true := by rw [bne_iff_ne]; omega
      have HA : Hid (ckM m = 220) := ckM_bad (monOk_head H1.out H2.out H3.out (.inr (by omega)))
      clear he
      go_enter Try.func20, Try.ntmps20
      go_wp2
      go_step3
      go_wp2_with (go_at_call 34; rw [hwb.out]; (with_reducible refine (cA.out _ (Later.refl _)).mono ?_); rintro e w1 ⟨rfl, hL1⟩)
      all_goals try rw [Exit.noGoto_ret]
      all_goals go_ret
      all_goals exact ⟨ret_int HA.out.symm, hL.trans hL1⟩
end Go.Proofs.Ytdheckfndldbmaa

namespace Go.Proofs.Ytdheckfndldbmaa
open Go.RowKit
attribute [local go_sem] merge_t merge_f merge_a merge_o

theorem cf_same1 (args : Array Value) (W : World) : (callFunc 53 args).run Try.prog W = .ok (.enter 53 args) W := by go_simp
set_option maxHeartbeats 400000 in
theorem same1_c (A : Option Addr) (n cap : Nat) (xs : List E2) (A' : Option Addr) (n' cap' : Nat) (ys : List E2) (w : World) (hm : n ≤ 9223372036854775807) (hR : Rd 2 encE w A n xs) (hR' : Rd 2 encE w A' n' ys) :
    Calls Try.prog 53 (#[.slice A n cap, .slice A' n' cap'] ++ #[]) w fun r w' => r = .returned (.bool (decide (xs = ys))) ∧ Later w w' := by
  have cE : Hid (Calls Try.prog 30 #[.slice A n cap, .slice A' n' cap'] w fun r w' => r = .returned (.bool (decide (xs = ys))) ∧ Later w w') := equalE_c A n cap xs A' n' cap' ys w hm hR hR'
  clear hR hR'
  go_enter Try.func53, Try.ntmps53
  go_wp2_with (go_at_call 30; refine cE.out.mono ?_; rintro e w1 ⟨rfl, hL1⟩)
  go_ret
  exact ⟨rfl, hL1⟩

set_option maxRecDepth 100000 in
set_option maxHeartbeats 1000000 in
theorem equalRows_c (B : Nat) (A : Option Addr) (n cap : Nat) (xs : List (List E2)) (A' : Option Addr) (n' cap' : Nat) (ys : List (List E2)) (w : World) (hB : B ≤ 1000000) (hm : n ≤ 1000000) (hl : ∀ l ∈ xs, l.length ≤ B) (hR : RdR w A n xs) (hR' : RdR w A' n' ys) :
    Calls Try.prog 56 #[.slice A n cap, .slice A' n' cap', .func (.func 53) #[] #[]] w fun r w' => r = .returned (.bool (decide (xs = ys))) ∧ Later w w' := by
  have HR : Hid (RdR w A n xs) := hR
  have HR' : Hid (RdR w A' n' ys) := hR'
  have Hx : Hid (xs.length = n) := hR.1
  have Hy : Hid (ys.length = n') := hR'.1
  have Hl : Hid (∀ l ∈ xs, l.length ≤ B) := hl
  clear hR hR' hl
  have hcf := cf_same1
  by_cases hn : n = n'
  · subst hn
    go_enter Try.func56, Try.ntmps56
    go_wp2
    go_loopw [17] (fun i wr => ∃ k : Nat, k ≤ n ∧ i = .int .i64 k ∧ xs.take k = ys.take k ∧ Later w wr) (fun i _ => n - (intOf i).toNat)
    case atStart => exact ⟨0, Nat.zero_le _, rfl, by simp, Later.refl _⟩
    case round =>
      obtain ⟨k, hk, rfl, heq, hB⟩ := hrel
      have Heq : Hid (xs.take k = ys.take k) := heq
      clear heq
      by_cases hlt : k < n
      · obtain ⟨q, qo, D, nr, c', rfl, x2, x3, x4, x5⟩ := HR.out.at k hlt
        obtain ⟨q', qo', D', nr', g', rfl, y2, y3, y4, y5⟩ := HR'.out.at k hlt
        have hl : nr ≤ 1000000 := by have := Hl.out _ (getD_mem (d := []) (k := k) (by rw [Hx.out]; exact hlt)); have := x5.1; omega
        by_cases he : xs[k]?.getD [] = ys[k]?.getD []
        · have He : Hid (xs[k]?.getD [] = ys[k]?.getD []) := he
          have cS : Hid (∀ W, Later w W → Calls Try.prog 53 (#[.slice D nr c', .slice D' nr' g'] ++ #[]) W fun r w' => r = .returned (.bool true) ∧ Later W w') := fun W hW => as_bool (same1_c D nr c' _ D' nr' g' _ W (by omega) (x5.later hW) (y5.later hW)) (decide_eq_true he)
          clear he x3 x4 x5 y3 y4 y5
          go_wp2_with fail
          refine (cS.out _ hB).mono ?_
          rintro e w1 ⟨rfl, hL1⟩
          go_wp2
          go_roundw
          case rel => exact ⟨k + 1, by omega, by go_num, eq_take_snoc xs ys [] k n Heq.out He.out Hx.out Hy.out hlt, hB.trans hL1⟩
          case measure => simp [intOf]; omega
        · have He : Hid (¬ xs[k]?.getD [] = ys[k]?.getD []) := he
          have cS : Hid (∀ W, Later w W → Calls Try.prog 53 (#[.slice D nr c', .slice D' nr' g'] ++ #[]) W fun r w' => r = .returned (.bool false) ∧ Later W w') := fun W hW => as_bool (same1_c D nr c' _ D' nr' g' _ W (by omega) (x5.later hW) (y5.later hW)) (decide_eq_false he)
          clear he x3 x4 x5 y3 y4 y5
          go_wp2_with fail
          refine (cS.out _ hB).mono ?_
          rintro e w1 ⟨rfl, hL1⟩
          go_wp2
          go_ret
          exact ⟨ret_bool (by simp [ne_of_getD [] k He.out]), hB.trans hL1⟩
      · go_wp2
        go_ret
        exact ⟨ret_bool (by simp [eq_of_take Heq.out Hx.out Hy.out (by omega)]), hB⟩
  · have hne : ((n : Int) != n') = true := by rw [bne_iff_ne]; omega
    have Hne : Hid (¬ n = n') := hn
    clear hn
    go_enter Try.func56, Try.ntmps56
    go_wp2
    go_ret
    exact ⟨ret_bool (by have h1 := Hx.out; have h2 := Hy.out; have h3 := Hne.out; symm; rw [decide_eq_false_iff_not]; intro h; rw [h] at h1; omega), Later.refl _⟩

set_option maxRecDepth 100000 in
set_option maxHeartbeats 4000000 in
theorem msame_c (B B' : Nat) (v v' : Value) (m m' : MonD) (w : World) (hB : B ≤ 1000000) (hM : RMon B w v m) (hM' : RMon B' w v' m') :
    Calls Try.prog 23 #[v, v'] w fun r w' => r = .returned (.bool (sameM m m')) ∧ Later w w' := by
  obtain ⟨A0, n0, c0, A1, n1, c1, A2, n2, c2, A3, n3, c3, rfl, hR0, hR1, hR2, hR3, hb, hc⟩ := hM
  obtain ⟨D0, k0, g0, D1, k1, g1, D2, k2, g2, D3, k3, g3, rfl, hS0, hS1, hS2, hS3, hb', hc'⟩ := hM'
  obtain ⟨wb, hwb, hL, hz, f1, f2⟩ := box2 w #[.slice A0 n0 c0, .slice A1 n1 c1, .slice A2 n2 c2, .slice A3 n3 c3] 32 #[.slice D0 k0 g0, .slice D1 k1 g1, .slice D2 k2 g2, .slice D3 k3 g3] 32
  have a0 := f1 0 (.slice A0 n0 c0) rfl
  have a1 := f1 1 (.slice A1 n1 c1) rfl
  have a2 := f1 2 (.slice A2 n2 c2) rfl
  have a3 := f1 3 (.slice A3 n3 c3) rfl
  have b0 := f2 0 (.slice D0 k0 g0) rfl
  have b1 := f2 1 (.slice D1 k1 g1) rfl
  have b2 := f2 2 (.slice D2 k2 g2) rfl
  have b3 := f2 3 (.slice D3 k3 g3) rfl
  clear f1 f2
  obtain ⟨p0, hp0⟩ : ∃ p, p = decide (m.slabs = m'.slabs) := ⟨_, rfl⟩
  obtain ⟨p1, hp1⟩ : ∃ p, p = decide (m.pinned = m'.pinned) := ⟨_, rfl⟩
  obtain ⟨p2, hp2⟩ : ∃ p, p = decide (m.has = m'.has) := ⟨_, rfl⟩
  obtain ⟨p3, hp3⟩ : ∃ p, p = decide (m.bad = m'.bad) := ⟨_, rfl⟩
  have q0 : Hid (∀ W, Later wb W → Calls Try.prog 54 #[.agg #[.slice A0 n0 c0], .agg #[.slice D0 k0 g0]] W fun r w' => r = .returned (.bool p0) ∧ Later W w') :=
    fun W hW => as_bool (asame_c A0 n0 c0 m.slabs D0 k0 g0 m'.slabs W (by omega) (hR0.later (hL.trans hW)) (hS0.later (hL.trans hW))) hp0.symm
  have q1 : Hid (∀ W, Later wb W → Calls Try.prog 55 #[.slice A1 n1 c1, .slice D1 k1 g1] W fun r w' => r = .returned (.bool p1) ∧ Later W w') :=
    fun W hW => as_bool (equalB_c A1 n1 c1 m.pinned D1 k1 g1 m'.pinned W (by omega) (hR1.later (hL.trans hW)) (hS1.later (hL.trans hW))) hp1.symm
  have q2 : Hid (∀ W, Later wb W → Calls Try.prog 56 #[.slice A2 n2 c2, .slice D2 k2 g2, .func (.func 53) #[] #[]] W fun r w' => r = .returned (.bool p2) ∧ Later W w') :=
    fun W hW => as_bool (equalRows_c B A2 n2 c2 m.has D2 k2 g2 m'.has W hB (by omega) hb.2.2.2.2 (hR2.later (hL.trans hW)) (hS2.later (hL.trans hW))) hp2.symm
  have q3 : Hid (∀ W, Later wb W → Calls Try.prog 28 #[.slice A3 n3 c3, .slice D3 k3 g3] W fun r w' => r = .returned (.bool p3) ∧ Later W w') :=
    fun W hW => as_bool (equalW_c A3 n3 c3 m.bad D3 k3 g3 m'.bad W (by omega) (hR3.later (hL.trans hW)) (hS3.later (hL.trans hW))) hp3.symm
  have HP : Hid (sameM m m' = (p0 && (p1 && (p2 && p3)))) := by
    show _ = _; rw [hp0, hp1, hp2, hp3, sameM]; simp
  clear hR0 hR1 hR2 hR3 hb hc hS0 hS1 hS2 hS3 hb' hc' hp0 hp1 hp2 hp3
  cases p0 <;> cases p1 <;> cases p2
  all_goals go_enter Try.func23, Try.ntmps23
  all_goals go_wp2_with (first
    | (go_at_call 54; rw [hwb.out]; (with_reducible refine (q0.out _ (Later.refl _)).mono ?_); rintro e w1 ⟨rfl, hL1⟩)
    | (go_at_call 55; (with_reducible refine (q1.out _ hL1).mono ?_); rintro e w2 ⟨rfl, hL2⟩; replace hL2 := hL1.trans hL2)
    | (go_at_call 56; (with_reducible refine (q2.out _ hL2).mono ?_); rintro e w3 ⟨rfl, hL3⟩; replace hL3 := hL2.trans hL3)
    | (go_at_call 28; (with_reducible refine (q3.out _ hL3).mono ?_); rintro e w4 ⟨rfl, hL4⟩; replace hL4 := hL3.trans hL4))
  all_goals go_ret
  all_goals first
    | exact ⟨ret_bool (by rw [HP.out]; rfl), hL.trans hL4⟩
    | exact ⟨ret_bool (by rw [HP.out]; rfl), hL.trans hL3⟩
    | exact ⟨ret_bool (by rw [HP.out]; rfl), hL.trans hL2⟩
    | exact ⟨ret_bool (by rw [HP.out]; rfl), hL.trans hL1⟩
end Go.Proofs.Ytdheckfndldbmaa
