/- The reference's Right for monitors. | The reference's Same for monitors. -/
import Derived.Test.YtdheckfndldbmaaM03
namespace Go.Proofs.Ytdheckfndldbmaa
open Go.RowKit
attribute [local go_sem] merge_t merge_f merge_a merge_o

/-- a bad touch that is kept may be so -/
def badOk (n : Int) (x : W4) : Bool := (decide (x.1 = 4) || decide (x.1 = 5)) && (decide (0 ≤ x.2.1) && (decide (x.2.1 < n) && entryOk (x.2.2.1, x.2.2.2)))
/-- rows, each by its goroutine -/
def rowsOk (has : List (List E2)) (pinned : List Bool) (k : Nat) : Bool := (List.range k).all fun g => rowP (has[g]?.getD []) (pinned[g]?.getD false)
/-- a monitor that may be -/
def monOk (m : MonD) : Bool :=
  (arenaOk m.slabs && (decide (1 ≤ m.pinned.length) && (decide (m.pinned.length ≤ 8) && (decide (m.has.length = m.pinned.length) && decide (m.bad.length ≤ 16))))) &&
  (rowsOk m.has m.pinned m.has.length && m.bad.all (badOk m.pinned.length))
theorem rowsOk_succ {has : List (List E2)} {pinned : List Bool} {k : Nat} : rowsOk has pinned (k + 1) = (rowsOk has pinned k && rowP (has[k]?.getD []) (pinned[k]?.getD false)) := by
  unfold rowsOk; rw [List.range_succ, List.all_append]; simp
theorem rowsOk_le {has : List (List E2)} {pinned : List Bool} {k n : Nat} (hk : k < n) (h : rowP (has[k]?.getD []) (pinned[k]?.getD false) = false) : rowsOk has pinned n = false := by
  unfold rowsOk; rw [List.all_eq_false]; exact ⟨k, List.mem_range.2 hk, by rw [h]; simp⟩
theorem badOk_bad {n : Int} {x : W4} (h : (x.1 ≠ 4 ∧ x.1 ≠ 5) ∨ x.2.1 < 0 ∨ n ≤ x.2.1 ∨ entryOk (x.2.2.1, x.2.2.2) = false) : badOk n x = false := by
  cases hb : badOk n x with
  | false => rfl
  | true =>
    simp only [badOk, Bool.and_eq_true, Bool.or_eq_true, decide_eq_true_eq] at hb
    rcases h with h | h | h | h
    · omega
    · omega
    · omega
    · rw [hb.2.2.2] at h; cases h
theorem badOk_good {n : Int} {x : W4} (h1 : x.1 = 4 ∨ x.1 = 5) (h2 : 0 ≤ x.2.1) (h3 : x.2.1 < n) (h4 : entryOk (x.2.2.1, x.2.2.2) = true) : badOk n x = true := by
  simp [badOk, h2, h3, h4]; omega
/-- the head of Right and Check fails -/
theorem monOk_head {m : MonD} {n1 n2 n3 : Nat} (h1 : m.pinned.length = n1) (h2 : m.has.length = n2) (h3 : m.bad.length = n3) (h : arenaOk m.slabs = false ∨ (n1 : Int) < 1 ∨ 8 < (n1 : Int) ∨ n2 ≠ n1 ∨ 16 < (n3 : Int)) : monOk m = false := by
  cases hb : monOk m with
  | false => rfl
  | true =>
    simp only [monOk, Bool.and_eq_true, decide_eq_true_eq, h1, h2, h3] at hb
    rcases h with h | h | h | h | h
    · rw [hb.1.1] at h; cases h
    · omega
    · omega
    · omega
    · omega
theorem monOk_rows {m : MonD} (h : rowsOk m.has m.pinned m.has.length = false) : monOk m = false := by simp only [monOk, h, Bool.false_and, Bool.and_false]
theorem monOk_bads {m : MonD} (h : m.bad.all (badOk m.pinned.length) = false) : monOk m = false := by simp only [monOk, h, Bool.and_false]
theorem monOk_good {m : MonD} {n1 n2 n3 : Nat} (h1 : m.pinned.length = n1) (h2 : m.has.length = n2) (h3 : m.bad.length = n3) (ha : arenaOk m.slabs = true) (hn : 1 ≤ (n1 : Int)) (hn' : (n1 : Int) ≤ 8) (he : n2 = n1) (hb : (n3 : Int) ≤ 16)
    (hr : rowsOk m.has m.pinned n2 = true) (hbad : m.bad.all (badOk n1) = true) : monOk m = true := by
  simp only [monOk, Bool.and_eq_true, decide_eq_true_eq, h1, h2, h3]
  exact ⟨⟨ha, by omega, by omega, he, by omega⟩, hr, hbad⟩

set_option maxRecDepth 100000 in
set_option maxHeartbeats 4000000 in
theorem rright12_c (B : Nat) (v : Value) (m : MonD) (w : World) (hB : B ≤ 1000000) (hM : RMon B w v m) :
    Calls Try.prog 22 #[v] w fun r w' => r = .returned (.bool (monOk m)) ∧ Later w w' := by
  obtain ⟨A0, n0, c0, A1, n1, c1, A2, n2, c2, A3, n3, c3, rfl, hR0, hR1, hR2, hR3, hb, hc⟩ := hM
  obtain ⟨wb, hwb, hL, hz, f1, -⟩ := box1 w #[.slice A0 n0 c0, .slice A1 n1 c1, .slice A2 n2 c2, .slice A3 n3 c3] 32
  have a0 := f1 0 (.slice A0 n0 c0) rfl
  have a1 := f1 1 (.slice A1 n1 c1) rfl
  have a2 := f1 2 (.slice A2 n2 c2) rfl
  have a3 := f1 3 (.slice A3 n3 c3) rfl
  clear f1
  have HR0 : Hid (Rd 2 encE wb A0 n0 m.slabs) := hR0.later hL
  have HR1 : Hid (Rd 1 encB wb A1 n1 m.pinned) := hR1.later hL
  have HR2 : Hid (RdR wb A2 n2 m.has) := hR2.later hL
  have HR3 : Hid (Rd 4 encW wb A3 n3 m.bad) := hR3.later hL
  have H1 : Hid (m.pinned.length = n1) := hR1.1
  have H2 : Hid (m.has.length = n2) := hR2.1
  have H3 : Hid (m.bad.length = n3) := hR3.1
  have Hb : Hid (∀ l ∈ m.has, l.length ≤ B) := hb.2.2.2.2
  have hn0 : n0 ≤ 1000000 := by omega
  have hn1 : n1 ≤ 1000000 := by omega
  have hn2 : n2 ≤ 1000000 := by omega
  have hn3 : n3 ≤ 1000000 := by omega
  clear hR0 hR1 hR2 hR3 hb hc
  cases hA : arenaOk m.slabs with
  | false =>
    have cA : Hid (∀ W, Later wb W → Calls Try.prog 50 #[.agg #[.slice A0 n0 c0]] W fun r w' => r = .returned (.bool false) ∧ Later W w') := fun W hW => as_bool (rright11_c A0 n0 c0 m.slabs W (by omega) (HR0.out.later hW)) hA
    have HA : Hid (arenaOk m.slabs = false) := hA
    clear hA
    go_enter Try.func22, Try.ntmps22
    go_wp2_with (go_at_call 50; rw [hwb.out]; (with_reducible refine (cA.out _ (Later.refl _)).mono ?_); rintro e w1 ⟨rfl, hL1⟩)
    go_ret
    exact ⟨ret_bool (monOk_head H1.out H2.out H3.out (.inl HA.out)).symm, hL.trans hL1⟩
  | true =>
    have cA : Hid (∀ W, Later wb W → Calls Try.prog 50 #[.agg #[.slice A0 n0 c0]] W fun r w' => r = .returned (.bool true) ∧ Later W w') := fun W hW => as_bool (rright11_c A0 n0 c0 m.slabs W (by omega) (HR0.out.later hW)) hA
    have HA : Hid (arenaOk m.slabs = true) := hA
    clear hA
    by_cases he : n2 = n1
    · subst he
      go_enter Try.func22, Try.ntmps22
      go_wp2_with (go_at_call 50; rw [hwb.out]; (with_reducible refine (cA.out _ (Later.refl _)).mono ?_); rintro e w1 ⟨rfl, hL1⟩)
      · go_ret
        exact ⟨ret_bool (monOk_head H1.out H2.out H3.out (.inr (by omega))).symm, hL.trans hL1⟩
      · have hlo : 1 ≤ (n2 : Int) := by omega
        have hhi : (n2 : Int) ≤ 8 := by omega
        have hba : (n3 : Int) ≤ 16 := by omega
        go_loopw [39] (fun i wr => ∃ k : Nat, k ≤ n2 ∧ i = .int .i64 k ∧ rowsOk m.has m.pinned k = true ∧ Later wb wr) (fun i _ => n2 - (intOf i).toNat)
        case atStart => exact ⟨0, Nat.zero_le _, rfl, rfl, hL1⟩
        case round =>
          obtain ⟨k, hk, rfl, hro, hLw⟩ := hrel
          have Hro : Hid (rowsOk m.has m.pinned k = true) := hro
          clear hro
          by_cases hlt : k < n2
          · obtain ⟨q, qo, A', nr, c', rfl, x2, x3, x4, x5⟩ := HR2.out.at k hlt
            obtain ⟨p, po, rfl, x1⟩ := HR1.out.atB k hlt
            have hl : nr ≤ 1000000 := by have := Hb.out _ (getD_mem (d := []) (k := k) (by rw [H2.out]; exact hlt)); have := x5.1; omega
            cases hp : rowP (m.has[k]?.getD []) (m.pinned[k]?.getD false) with
            | false =>
              have cR : Hid (∀ W, Later wb W → Calls Try.prog 51 #[.slice A' nr c', .bool (m.pinned[k]?.getD false)] W fun r w' => r = .returned (.bool false) ∧ Later W w') := fun W hW => as_bool (row_c A' nr c' _ _ W (by omega) x3 x4 (x5.later hW)) hp
              have Hp : Hid (rowP (m.has[k]?.getD []) (m.pinned[k]?.getD false) = false) := hp
              clear hp x5 x3 x4
              go_wp2_with (go_at_call 51; (with_reducible refine (cR.out _ hLw).mono ?_); rintro e w2 ⟨rfl, hL2⟩)
              go_ret
              exact ⟨ret_bool (monOk_rows (rowsOk_le (k := k) (by rw [H2.out]; exact hlt) Hp.out)).symm, hL.trans (hLw.trans hL2)⟩
            | true =>
              have cR : Hid (∀ W, Later wb W → Calls Try.prog 51 #[.slice A' nr c', .bool (m.pinned[k]?.getD false)] W fun r w' => r = .returned (.bool true) ∧ Later W w') := fun W hW => as_bool (row_c A' nr c' _ _ W (by omega) x3 x4 (x5.later hW)) hp
              have Hp : Hid (rowP (m.has[k]?.getD []) (m.pinned[k]?.getD false) = true) := hp
              clear hp x5 x3 x4
              go_wp2_with (go_at_call 51; (with_reducible refine (cR.out _ hLw).mono ?_); rintro e w2 ⟨rfl, hL2⟩)
              go_roundw
              case rel => exact ⟨k + 1, by omega, by go_num, by rw [rowsOk_succ, Hro.out, Hp.out]; rfl, hLw.trans hL2⟩
              case measure => simp [intOf]; omega
          · have e : k = n2 := by omega
            subst e
            go_wp2
            go_loopw [56] (fun i wr => ∃ j : Nat, j ≤ n3 ∧ i = .int .i64 j ∧ (∀ x ∈ m.bad.take j, (!badOk k x) = false) ∧ Later wb wr) (fun i _ => n3 - (intOf i).toNat)
            case atStart => exact ⟨0, Nat.zero_le _, rfl, by simp, hLw⟩
            case round =>
              obtain ⟨j, hj, rfl, hba2, hLv⟩ := hrel
              have Hba : Hid (∀ x ∈ m.bad.take j, (!badOk k x) = false) := hba2
              clear hba2
              by_cases hjt : j < n3
              · obtain ⟨b, off, rfl, d0, d1, d2, d3⟩ := HR3.out.atW j hjt
                cases hE : entryOk ((m.bad[j]?.getD (0, 0, 0, 0)).2.2.1, (m.bad[j]?.getD (0, 0, 0, 0)).2.2.2) with
                | false =>
                  have cE : Hid (∀ W, Calls Try.prog 52 #[.agg #[.int .i64 (m.bad[j]?.getD (0, 0, 0, 0)).2.2.1, .int .u64 (m.bad[j]?.getD (0, 0, 0, 0)).2.2.2]] W fun r w' => r = .returned (.bool false) ∧ Later W w') := fun W => as_bool (rentry_c _ _ W) hE
                  have HE : Hid (entryOk ((m.bad[j]?.getD (0, 0, 0, 0)).2.2.1, (m.bad[j]?.getD (0, 0, 0, 0)).2.2.2) = false) := hE
                  clear hE
                  have Hbad : Hid (monOk m = false) := monOk_bads (by rw [H1.out]; exact all_bad (badOk k) (k := j) (d := (0, 0, 0, 0)) (by rw [H3.out]; exact hjt) (badOk_bad (.inr (.inr (.inr HE.out)))))
                  go_wp2_with (go_at_call 52; (with_reducible refine (cE.out _).mono ?_); rintro e w2 ⟨rfl, hL2⟩)
                  all_goals go_ret
                  all_goals first
                    | exact ⟨ret_bool Hbad.out.symm, hL.trans ((hLv.alloc _).trans hL2)⟩
                    | exact ⟨ret_bool Hbad.out.symm, hL.trans (hLv.alloc _)⟩
                | true =>
                  have cE : Hid (∀ W, Calls Try.prog 52 #[.agg #[.int .i64 (m.bad[j]?.getD (0, 0, 0, 0)).2.2.1, .int .u64 (m.bad[j]?.getD (0, 0, 0, 0)).2.2.2]] W fun r w' => r = .returned (.bool true) ∧ Later W w') := fun W => as_bool (rentry_c _ _ W) hE
                  have HE : Hid (entryOk ((m.bad[j]?.getD (0, 0, 0, 0)).2.2.1, (m.bad[j]?.getD (0, 0, 0, 0)).2.2.2) = true) := hE
                  clear hE
                  go_wp2_with (go_at_call 52; (with_reducible refine (cE.out _).mono ?_); rintro e w2 ⟨rfl, hL2⟩)
                  case' roundEnd =>
                    go_roundw
                    case rel => exact ⟨j + 1, by omega, by go_num, take_snoc_all (fun x => !badOk k x) m.bad (0, 0, 0, 0) j (by rw [H3.out]; exact hjt) Hba.out (by rw [badOk_good (by omega) (by omega) (by omega) HE.out]; rfl), hLv.trans (((Later.refl _).alloc _).trans hL2)⟩
                    case measure => simp [intOf]; omega
                  case' roundEnd =>
                    go_roundw
                    case rel => exact ⟨j + 1, by omega, by go_num, take_snoc_all (fun x => !badOk k x) m.bad (0, 0, 0, 0) j (by rw [H3.out]; exact hjt) Hba.out (by rw [badOk_good (by omega) (by omega) (by omega) HE.out]; rfl), hLv.trans (((Later.refl _).alloc _).trans hL2)⟩
                    case measure => simp [intOf]; omega
                  all_goals
                    go_ret
                    refine ⟨ret_bool (monOk_bads (by rw [H1.out]; exact all_bad (badOk k) (k := j) (d := (0, 0, 0, 0)) (by rw [H3.out]; exact hjt) (badOk_bad (by first | exact .inl (by omega) | exact .inr (.inl (by omega)) | exact .inr (.inr (.inl (by omega))))))).symm, hL.trans (hLv.alloc _)⟩
              · go_wp2
                go_ret
                exact ⟨ret_bool (monOk_good H1.out H2.out H3.out HA.out hlo hhi rfl hba Hro.out (all_good (badOk k) (k := j) (by rw [H3.out]; omega) Hba.out)).symm, hL.trans hLv⟩
      · go_ret
        exact ⟨ret_bool (monOk_head H1.out H2.out H3.out (.inr (by omega))).symm, hL.trans hL1⟩
      · go_ret
        exact ⟨ret_bool (monOk_head H1.out H2.out H3.out (.inr (by omega))).symm, hL.trans hL1⟩
    · have hne : ((n2 : Int) != n1) = true := by rw [bne_iff_ne]; omega
      have He : Hid (¬ n2 = n1) := he
      clear he
      go_enter Try.func22, Try.ntmps22
      go_wp2_with (go_at_call 50; rw [hwb.out]; (with_reducible refine (cA.out _ (Later.refl _)).mono ?_); rintro e w1 ⟨rfl, hL1⟩)
      all_goals go_ret
      all_goals exact ⟨ret_bool (monOk_head H1.out H2.out H3.out (.inr (by have := He.out; omega))).symm, hL.trans hL1⟩
end Go.Proofs.Ytdheckfndldbmaa

namespace Go.Proofs.Ytdheckfndldbmaa
open Go.RowKit
attribute [local go_sem] merge_t merge_f merge_a merge_o

/-- the same monitors -/
def sameM (m m' : MonD) : Bool := decide (m.slabs = m'.slabs ∧ m.pinned = m'.pinned ∧ m.has = m'.has ∧ m.bad = m'.bad)
theorem sameM_no {m m' : MonD} (h : m.slabs ≠ m'.slabs ∨ m.pinned ≠ m'.pinned ∨ m.has ≠ m'.has ∨ m.bad ≠ m'.bad) : sameM m m' = false := by
  unfold sameM; rw [decide_eq_false_iff_not]; rintro ⟨a, b, c, d⟩; rcases h with h | h | h | h <;> contradiction
theorem sameM_yes {m m' : MonD} (h1 : m.slabs = m'.slabs) (h2 : m.pinned = m'.pinned) (h3 : m.has = m'.has) (h4 : m.bad = m'.bad) : sameM m m' = true := by
  unfold sameM; exact decide_eq_true ⟨h1, h2, h3, h4⟩
theorem sameM_eq {m m' : MonD} (h : sameM m m' = true) : m = m' := by
  have := of_decide_eq_true h; cases m; cases m'; simp_all
theorem ne_len {α : Type} {xs ys : List α} {n n' : Nat} (h1 : xs.length = n) (h2 : ys.length = n') (h : ¬ n = n') : xs ≠ ys := by rintro rfl; omega
theorem ne_testW {a b : W4} (h : ¬ a = b) : (!decide (a.1 = b.1) || (!decide (a.2.1 = b.2.1) || (!decide (a.2.2.1 = b.2.2.1) || !decide (a.2.2.2 = b.2.2.2)))) = true := by
  simp only [Prod.ext_iff] at h
  simp only [Bool.or_eq_true, Bool.not_eq_true', decide_eq_false_iff_not]; omega
theorem eq_testW {a b : W4} (h : a = b) : (!decide (a.1 = b.1) || (!decide (a.2.1 = b.2.1) || (!decide (a.2.2.1 = b.2.2.1) || !decide (a.2.2.2 = b.2.2.2)))) = false := by rw [h]; simp

set_option maxRecDepth 100000 in
set_option maxHeartbeats 4000000 in
theorem rsame12_c (B B' : Nat) (v v' : Value) (m m' : MonD) (w : World) (hB : B ≤ 1000000) (hM : RMon B w v m) (hM' : RMon B' w v' m') :
    Calls Try.prog 11 #[v, v'] w fun r w' => r = .returned (.bool (sameM m m')) ∧ Later w w' := by
  obtain ⟨A0, n0, c0, A1, n1, c1, A2, n2, c2, A3, n3, c3, rfl, hR0, hR1, hR2, hR3, hb, hc⟩ := hM
  obtain ⟨D0, k0, g0, D1, k1, g1, D2, k2, g2, D3, k3, g3, rfl, hS0, hS1, hS2, hS3, hb', hc'⟩ := hM'
  obtain ⟨wb, hwb, hL, hz, f1, f2⟩ := box2 w #[.slice A0 n0 c0, .slice A1 n1 c1, .slice A2 n2 c2, .slice A3 n3 c3] 32 #[.slice D0 k0 g0, .slice D1 k1 g1, .slice D2 k2 g2, .slice D3 k3 g3] 32
  have a0 := f1 0 (.slice A0 n0 c0) rfl
  have a1 := f1 1 (.slice A1 n1 c1) rfl
  have a2 := f1 2 (.slice A2 n2 c2) rfl
  have a3 := f1 3 (.slice A3 n3 c3) rfl
  have b0 := f2 0 (.slice D0 k0 g0) rfl
  have b1 := f2 1 (.slice D1 k1 g1) rfl
  have b2 := f2 2 (.slice D2 k2 g2) rfl
  have b3 := f2 3 (.slice D3 k3 g3) rfl
  clear f1 f2
  have HR1 : Hid (Rd 1 encB wb A1 n1 m.pinned) := hR1.later hL
  have HR2 : Hid (RdR wb A2 n2 m.has) := hR2.later hL
  have HR3 : Hid (Rd 4 encW wb A3 n3 m.bad) := hR3.later hL
  have HS1 : Hid (Rd 1 encB wb D1 k1 m'.pinned) := hS1.later hL
  have HS2 : Hid (RdR wb D2 k2 m'.has) := hS2.later hL
  have HS3 : Hid (Rd 4 encW wb D3 k3 m'.bad) := hS3.later hL
  have H1 : Hid (m.pinned.length = n1) := hR1.1
  have H2 : Hid (m.has.length = n2) := hR2.1
  have H3 : Hid (m.bad.length = n3) := hR3.1
  have J1 : Hid (m'.pinned.length = k1) := hS1.1
  have J2 : Hid (m'.has.length = k2) := hS2.1
  have J3 : Hid (m'.bad.length = k3) := hS3.1
  have Hb : Hid (∀ l ∈ m.has, l.length ≤ B) := hb.2.2.2.2
  have hn0 : n0 ≤ 1000000 := by omega
  have hn1 : n1 ≤ 1000000 := by omega
  have hn2 : n2 ≤ 1000000 := by omega
  have hn3 : n3 ≤ 1000000 := by omega
  have cA : Hid (∀ W, Later wb W → Calls Try.prog 32 #[.agg #[.slice A0 n0 c0], .agg #[.slice D0 k0 g0]] W fun r w' => r = .returned (.bool (decide (m.slabs = m'.slabs))) ∧ Later W w') :=
    fun W hW => rsame11_c A0 n0 c0 m.slabs D0 k0 g0 m'.slabs W (by omega) (hR0.later (hL.trans hW)) (hS0.later (hL.trans hW))
  clear hR0 hR1 hR2 hR3 hb hc hS0 hS1 hS2 hS3 hb' hc'
  by_cases hA : m.slabs = m'.slabs
  case neg =>
    have cA : Hid (∀ W, Later wb W → Calls Try.prog 32 #[.agg #[.slice A0 n0 c0], .agg #[.slice D0 k0 g0]] W fun r w' => r = .returned (.bool false) ∧ Later W w') := fun W hW => as_bool (cA.out W hW) (decide_eq_false hA)
    have HA : Hid (¬ m.slabs = m'.slabs) := hA
    clear hA
    go_enter Try.func11, Try.ntmps11
    go_wp2_with (go_at_call 32; rw [hwb.out]; (with_reducible refine (cA.out _ (Later.refl _)).mono ?_); rintro e w1 ⟨rfl, hL1⟩)
    go_ret
    exact ⟨ret_bool (sameM_no (.inl HA.out)).symm, hL.trans hL1⟩
  have cA : Hid (∀ W, Later wb W → Calls Try.prog 32 #[.agg #[.slice A0 n0 c0], .agg #[.slice D0 k0 g0]] W fun r w' => r = .returned (.bool true) ∧ Later W w') := fun W hW => as_bool (cA.out W hW) (decide_eq_true hA)
  have HA : Hid (m.slabs = m'.slabs) := hA
  clear hA
  by_cases h1 : n1 = k1
  case neg =>
    have hne : ((n1 : Int) != k1) = true := by rw [bne_iff_ne]; omega
    have He : Hid (¬ n1 = k1) := h1
    clear h1
    go_enter Try.func11, Try.ntmps11
    go_wp2_with (go_at_call 32; rw [hwb.out]; (with_reducible refine (cA.out _ (Later.refl _)).mono ?_); rintro e w1 ⟨rfl, hL1⟩)
    go_ret
    exact ⟨ret_bool (sameM_no (.inr (.inl (ne_len H1.out J1.out He.out)))).symm, hL.trans hL1⟩
  subst h1
  by_cases h2 : n2 = k2
  case neg =>
    have hne : ((n2 : Int) != k2) = true := by rw [bne_iff_ne]; omega
    have He : Hid (¬ n2 = k2) := h2
    clear h2
    go_enter Try.func11, Try.ntmps11
    go_wp2_with (go_at_call 32; rw [hwb.out]; (with_reducible refine (cA.out _ (Later.refl _)).mono ?_); rintro e w1 ⟨rfl, hL1⟩)
    go_ret
    exact ⟨ret_bool (sameM_no (.inr (.inr (.inl (ne_len H2.out J2.out He.out))))).symm, hL.trans hL1⟩
  subst h2
  by_cases h3 : n3 = k3
  case neg =>
    have hne : ((n3 : Int) != k3) = true := by rw [bne_iff_ne]; omega
    have He : Hid (¬ n3 = k3) := h3
    clear h3
    go_enter Try.func11, Try.ntmps11
    go_wp2_with (go_at_call 32; rw [hwb.out]; (with_reducible refine (cA.out _ (Later.refl _)).mono ?_); rintro e w1 ⟨rfl, hL1⟩)
    go_ret
    exact ⟨ret_bool (sameM_no (.inr (.inr (.inr (ne_len H3.out J3.out He.out))))).symm, hL.trans hL1⟩
  subst h3
  go_enter Try.func11, Try.ntmps11
  go_wp2_with (go_at_call 32; rw [hwb.out]; (with_reducible refine (cA.out _ (Later.refl _)).mono ?_); rintro e w1 ⟨rfl, hL1⟩)
  go_loopw [47] (fun i wr => ∃ k : Nat, k ≤ n1 ∧ i = .int .i64 k ∧ m.pinned.take k = m'.pinned.take k ∧ Later wb wr) (fun i _ => n1 - (intOf i).toNat)
  case atStart => exact ⟨0, Nat.zero_le _, rfl, by simp, hL1⟩
  case round =>
    obtain ⟨k, hk, rfl, hro, hLw⟩ := hrel
    have Hro : Hid (m.pinned.take k = m'.pinned.take k) := hro
    clear hro
    by_cases hlt : k < n1
    · obtain ⟨p, po, rfl, x1⟩ := HR1.out.atB k hlt
      obtain ⟨q, qo, rfl, y1⟩ := HS1.out.atB k hlt
      generalize hX : m.pinned[k]?.getD false = bx at x1
      generalize hY : m'.pinned[k]?.getD false = cx at y1
      have HX : Hid (m.pinned[k]?.getD false = bx) := hX
      have HY : Hid (m'.pinned[k]?.getD false = cx) := hY
      clear hX hY
      cases bx <;> cases cx
      all_goals go_wp2
      all_goals first
        | (go_roundw
           case rel => exact ⟨k + 1, by omega, by go_num, eq_take_snoc _ _ false k n1 Hro.out (HX.out.trans HY.out.symm) H1.out J1.out hlt, hLw⟩
           case measure => simp [intOf]; omega)
        | (go_ret
           exact ⟨ret_bool (sameM_no (.inr (.inl (ne_of_getD false k (by rw [HX.out, HY.out]; decide))))).symm, hL.trans hLw⟩)
    · have Ht : Hid (m.pinned = m'.pinned) := eq_of_take Hro.out H1.out J1.out (by omega)
      go_wp2
      go_loopw [63] (fun i wr => ∃ k : Nat, k ≤ n2 ∧ i = .int .i64 k ∧ m.has.take k = m'.has.take k ∧ Later wb wr) (fun i _ => n2 - (intOf i).toNat)
      case atStart => exact ⟨0, Nat.zero_le _, rfl, by simp, hLw⟩
      case round =>
        obtain ⟨j, hk2, rfl, hro2, hLv⟩ := hrel
        have Hro2 : Hid (m.has.take j = m'.has.take j) := hro2
        clear hro2
        by_cases hlt2 : j < n2
        · obtain ⟨q, qo, A', nr, c', rfl, x2, x3, x4, x5⟩ := HR2.out.at j hlt2
          obtain ⟨q', qo', D', nr', g', rfl, y2, y3, y4, y5⟩ := HS2.out.at j hlt2
          have hl : nr ≤ 1000000 := by have := Hb.out _ (getD_mem (d := []) (k := j) (by rw [H2.out]; exact hlt2)); have := x5.1; omega
          have cR : Hid (∀ W, Later wb W → Calls Try.prog 33 #[.slice A' nr c', .slice D' nr' g'] W fun r w' => r = .returned (.bool (decide (m.has[j]?.getD [] = m'.has[j]?.getD []))) ∧ Later W w') :=
            fun W hW => entries_c A' nr c' _ D' nr' g' _ W (by omega) (x5.later hW) (y5.later hW)
          by_cases hp : m.has[j]?.getD [] = m'.has[j]?.getD []
          · have Hp : Hid (m.has[j]?.getD [] = m'.has[j]?.getD []) := hp
            have cR : Hid (∀ W, Later wb W → Calls Try.prog 33 #[.slice A' nr c', .slice D' nr' g'] W fun r w' => r = .returned (.bool true) ∧ Later W w') := fun W hW => as_bool (cR.out W hW) (decide_eq_true hp)
            clear hp x5 x3 x4 y5 y3 y4
            go_wp2_with (go_at_call 33; (with_reducible refine (cR.out _ hLv).mono ?_); rintro e w2 ⟨rfl, hL2⟩)
            go_roundw
            case rel => exact ⟨j + 1, by omega, by go_num, eq_take_snoc _ _ [] j n2 Hro2.out Hp.out H2.out J2.out hlt2, hLv.trans hL2⟩
            case measure => simp [intOf]; omega
          · have Hp : Hid (¬ m.has[j]?.getD [] = m'.has[j]?.getD []) := hp
            have cR : Hid (∀ W, Later wb W → Calls Try.prog 33 #[.slice A' nr c', .slice D' nr' g'] W fun r w' => r = .returned (.bool false) ∧ Later W w') := fun W hW => as_bool (cR.out W hW) (decide_eq_false hp)
            clear hp x5 x3 x4 y5 y3 y4
            go_wp2_with (go_at_call 33; (with_reducible refine (cR.out _ hLv).mono ?_); rintro e w2 ⟨rfl, hL2⟩)
            go_ret
            exact ⟨ret_bool (sameM_no (.inr (.inr (.inl (ne_of_getD [] j Hp.out))))).symm, hL.trans (hLv.trans hL2)⟩
        · have Hh : Hid (m.has = m'.has) := eq_of_take Hro2.out H2.out J2.out (by omega)
          go_wp2
          go_loopw [80] (fun i wr => ∃ k : Nat, k ≤ n3 ∧ i = .int .i64 k ∧ m.bad.take k = m'.bad.take k ∧ Later wb wr) (fun i _ => n3 - (intOf i).toNat)
          case atStart => exact ⟨0, Nat.zero_le _, rfl, by simp, hLv⟩
          case round =>
            obtain ⟨i, hk3, rfl, hro3, hLu⟩ := hrel
            have Hro3 : Hid (m.bad.take i = m'.bad.take i) := hro3
            clear hro3
            by_cases hlt3 : i < n3
            · obtain ⟨b, off, rfl, d0, d1, d2, d3⟩ := HR3.out.atW i hlt3
              obtain ⟨b', off', rfl, u0, u1, u2, u3⟩ := HS3.out.atW i hlt3
              obtain ⟨wc, hwc, hL2, _, f3, _⟩ := box1 wr #[.int .i64 (m.bad[i]?.getD (0, 0, 0, 0)).1, .int .i64 (m.bad[i]?.getD (0, 0, 0, 0)).2.1, .int .i64 (m.bad[i]?.getD (0, 0, 0, 0)).2.2.1, .int .u64 (m.bad[i]?.getD (0, 0, 0, 0)).2.2.2] 45
              have e0 := f3 0 (.int .i64 (m.bad[i]?.getD (0, 0, 0, 0)).1) rfl
              have e1 := f3 1 (.int .i64 (m.bad[i]?.getD (0, 0, 0, 0)).2.1) rfl
              have e2 := f3 2 (.int .i64 (m.bad[i]?.getD (0, 0, 0, 0)).2.2.1) rfl
              have e3 := f3 3 (.int .u64 (m.bad[i]?.getD (0, 0, 0, 0)).2.2.2) rfl
              have z0 := celw (hLu.trans hL2) u0
              have z1 := celw (hLu.trans hL2) u1
              have z2 := celw (hLu.trans hL2) u2
              have z3 := celw (hLu.trans hL2) u3
              have g3' := celw (hLu.trans hL2) b3
              clear f3
              by_cases hp : m.bad[i]?.getD (0, 0, 0, 0) = m'.bad[i]?.getD (0, 0, 0, 0)
              · have Hp : Hid (m.bad[i]?.getD (0, 0, 0, 0) = m'.bad[i]?.getD (0, 0, 0, 0)) := hp
                clear hp
                go_wp2
                rw [hwc.out]
                refine region_draw (S := Later wc) (af := ?_) (by kernel_rfl) (by kernel_rfl) (fun _ h => h.drew) (Later.refl _) ?_ ?_
                rotate_left
                · repeat (first
                    | (refine SeqL.val (v := ?_) (by rfl) (fun W hW => ?_) ?_; rotate_left; (· (go_simp; try with_reducible rfl)); try simp only [Act.put, List.setIfInBounds_toArray, List.set_cons_zero, List.set_cons_succ])
                    | (refine SeqL.skip (by rfl) ?_; try simp only [Act.put, List.setIfInBounds_toArray, List.set_cons_zero, List.set_cons_succ])
                    )
                  exact SeqL.nil _
                intro w1 hL1
                rw [eq_testW Hp.out]
                go_wp2
                go_roundw
                case rel => exact ⟨i + 1, by omega, by go_num, eq_take_snoc _ _ (0, 0, 0, 0) i n3 Hro3.out Hp.out H3.out J3.out hlt3, hLu.trans (hL2.trans hL1)⟩
                case measure => simp [intOf]; omega
              · have Hp : Hid (¬ m.bad[i]?.getD (0, 0, 0, 0) = m'.bad[i]?.getD (0, 0, 0, 0)) := hp
                clear hp
                go_wp2
                rw [hwc.out]
                refine region_draw (S := Later wc) (af := ?_) (by kernel_rfl) (by kernel_rfl) (fun _ h => h.drew) (Later.refl _) ?_ ?_
                rotate_left
                · repeat (first
                    | (refine SeqL.val (v := ?_) (by rfl) (fun W hW => ?_) ?_; rotate_left; (· (go_simp; try with_reducible rfl)); try simp only [Act.put, List.setIfInBounds_toArray, List.set_cons_zero, List.set_cons_succ])
                    | (refine SeqL.skip (by rfl) ?_; try simp only [Act.put, List.setIfInBounds_toArray, List.set_cons_zero, List.set_cons_succ])
                    )
                  exact SeqL.nil _
                intro w1 hL1
                rw [ne_testW Hp.out]
                go_wp2
                go_ret
                exact ⟨ret_bool (sameM_no (.inr (.inr (.inr (ne_of_getD (0, 0, 0, 0) i Hp.out))))).symm, hL.trans (hLu.trans (hL2.trans hL1))⟩
            · go_wp2
              go_ret
              exact ⟨ret_bool (sameM_yes HA.out Ht.out Hh.out (eq_of_take Hro3.out H3.out J3.out (by omega))).symm, hL.trans hLu⟩
end Go.Proofs.Ytdheckfndldbmaa
