/- The watcher's does: what it comes to. | Plain: what doing something keeps. | The monitor's tries: an own copy. | The monitor's tries: its own copy, row by row. -/
import Derived.Test.YtdheckfndldbmaaM12
namespace Go.Proofs.Ytdheckfndldbmaa
open Go.RowKit
attribute [local go_sem] merge_t merge_f merge_a merge_o

set_option maxRecDepth 100000 in
set_option maxHeartbeats 8000000 in
/-- what is not watched -/
theorem wdoesK_c (b : Nat) (x : WX) (m : MonD) (tk : List E2) (kd gi s g : Int) (w : World) (hk : kd < 1 ∨ 9 ≤ kd) (h : WSt w b x m tk) :
    Calls Try.prog 39 #[.pointer (some ⟨b, 0, none⟩), .agg #[.int .i64 kd, .int .i64 gi, .int .i64 s, .int .u64 g]] w (MPost b x w (.error 221)) := by
  have hmf : ∀ (fn : Fn) (first cap : Array Value) (w : World), (Instr.makeFunc fn first cap).run Try.prog w = .ok (.func fn first cap) w := fun _ _ _ _ => rfl
  obtain ⟨wb, hwb, hL, f1, f2⟩ := does_box w b kd gi s g
  have e0 := f1 0 (.int .i64 kd) rfl
  clear f1 f2 h
  rcases hk with hk | hk
  · have d1 : decide (1 ≤ kd) = false := decide_eq_false (by omega)
    go_enter Try.func39, Try.ntmps39
    go_wp2_with fail
    rw [hwb.out]
    refine (mneed_no _ _).mono ?_
    rintro e w9 ⟨rfl, rfl⟩
    exact ⟨rfl, Chg.of_later hL, rfl⟩
  · have d1 : decide (1 ≤ kd) = true := decide_eq_true (by omega)
    have d2 : decide (kd < 9) = false := decide_eq_false (by omega)
    go_enter Try.func39, Try.ntmps39
    go_wp2_with fail
    rw [hwb.out]
    refine (mneed_no _ _).mono ?_
    rintro e w9 ⟨rfl, rfl⟩
    exact ⟨rfl, Chg.of_later hL, rfl⟩

set_option maxRecDepth 100000 in
set_option maxHeartbeats 8000000 in
/-- nobody -/
theorem wdoesG_c (b : Nat) (x : WX) (m : MonD) (tk : List E2) (kd gi s g : Int) (w : World) (hg : x.g ≤ 8) (hk : 1 ≤ kd) (hk9 : kd < 9) (hgi : gi < 0 ∨ (x.g : Int) ≤ gi) (h : WSt w b x m tk) :
    Calls Try.prog 39 #[.pointer (some ⟨b, 0, none⟩), .agg #[.int .i64 kd, .int .i64 gi, .int .i64 s, .int .u64 g]] w (MPost b x w (.error 2)) := by
  have hmf : ∀ (fn : Fn) (first cap : Array Value) (w : World), (Instr.makeFunc fn first cap).run Try.prog w = .ok (.func fn first cap) w := fun _ _ _ _ => rfl
  obtain ⟨wb, hwb, hL, f1, f2⟩ := does_box w b kd gi s g
  have e0 := f1 0 (.int .i64 kd) rfl
  have e1 := f1 1 (.int .i64 gi) rfl
  have p1 := (h.later hL).field.2.1
  have d1 : decide (1 ≤ kd) = true := decide_eq_true hk
  have d2 : decide (kd < 9) = true := decide_eq_true hk9
  clear f1 f2 h
  rcases hgi with hgi | hgi
  · have d3 : decide (0 ≤ gi) = false := decide_eq_false (by omega)
    go_enter Try.func39, Try.ntmps39
    go_wp2_with fail
    rw [hwb.out]
    refine (mneed_yes _ _).mono ?_
    rintro e w9 ⟨rfl, rfl⟩
    go_wp2
    refine region_ghost (S := Later wb) (af := ?_) 14 gF0 gV0 gE0 gU0 (by kernel_rfl) (by kernel_rfl) (by kernel_rfl) (by decide) (by kernel_rfl) (fun _ h => h.drew) (Later.refl _) (fun _ _ h h2 => h.trans h2) gL0 gO0 ?_ ?_
    rotate_left
    · intro t
      repeat (first
        | (refine SeqT.val (v := ?_) (by rfl) (by rfl) (fun W hW => ?_) ?_; rotate_left; (· (go_simp; try with_reducible rfl)); try simp only [Act.put, List.setIfInBounds_toArray, List.set_cons_zero, List.set_cons_succ])
        | (refine SeqT.skip (by rfl) (by rfl) ?_; try simp only [Act.put, List.setIfInBounds_toArray, List.set_cons_zero, List.set_cons_succ])
        )
      exact SeqT.nil _
    intro t W hW hV
    refine wpList_is (l' := [_]) rfl ?_
    clear hV
    go_wp2_with fail
    refine (mneed_no _ _).mono ?_
    rintro e w9 ⟨rfl, rfl⟩
    exact ⟨rfl, Chg.of_later (hL.trans hW), rfl⟩
  · have d3 : decide (0 ≤ gi) = true := decide_eq_true (by omega)
    have d4 : decide (gi < (x.g : Int)) = false := decide_eq_false (by omega)
    go_enter Try.func39, Try.ntmps39
    go_wp2_with fail
    rw [hwb.out]
    refine (mneed_yes _ _).mono ?_
    rintro e w9 ⟨rfl, rfl⟩
    go_wp2
    refine region_ghost (S := Later wb) (af := ?_) 14 gF0 gV0 gE0 gU0 (by kernel_rfl) (by kernel_rfl) (by kernel_rfl) (by decide) (by kernel_rfl) (fun _ h => h.drew) (Later.refl _) (fun _ _ h h2 => h.trans h2) gL0 gO0 ?_ ?_
    rotate_left
    · intro t
      repeat (first
        | (refine SeqT.val (v := ?_) (by rfl) (by rfl) (fun W hW => ?_) ?_; rotate_left; (· (go_simp; try with_reducible rfl)); try simp only [Act.put, List.setIfInBounds_toArray, List.set_cons_zero, List.set_cons_succ])
        | (refine SeqT.skip (by rfl) (by rfl) ?_; try simp only [Act.put, List.setIfInBounds_toArray, List.set_cons_zero, List.set_cons_succ])
        )
      exact SeqT.nil _
    intro t W hW hV
    refine wpList_is (l' := [_]) rfl ?_
    clear hV
    go_wp2_with fail
    refine (mneed_no _ _).mono ?_
    rintro e w9 ⟨rfl, rfl⟩
    exact ⟨rfl, Chg.of_later (hL.trans hW), rfl⟩

set_option maxRecDepth 100000 in
set_option maxHeartbeats 8000000 in
/-- an entry that is none -/
theorem wdoesE_c (b : Nat) (x : WX) (m : MonD) (tk : List E2) (kd s g : Int) (i : Nat) (w : World) (hg : x.g ≤ 8) (hk : kd = 3 ∨ kd = 4 ∨ kd = 5 ∨ kd = 7 ∨ kd = 8) (hi : i < x.g) (hE : entryOk (s, g) = false) (h : WSt w b x m tk) :
    Calls Try.prog 39 #[.pointer (some ⟨b, 0, none⟩), .agg #[.int .i64 kd, .int .i64 i, .int .i64 s, .int .u64 g]] w (MPost b x w (.error 2)) := by
  have hmf : ∀ (fn : Fn) (first cap : Array Value) (w : World), (Instr.makeFunc fn first cap).run Try.prog w = .ok (.func fn first cap) w := fun _ _ _ _ => rfl
  obtain ⟨wb, hwb, hL, f1, f2⟩ := does_box w b kd i s g
  have e0 := f1 0 (.int .i64 kd) rfl
  have e1 := f1 1 (.int .i64 i) rfl
  have e2 := f1 2 (.int .i64 s) rfl
  have e3 := f1 3 (.int .u64 g) rfl
  have p1 := (h.later hL).field.2.1
  have d1 : decide (1 ≤ kd) = true := decide_eq_true (by omega)
  have d2 : decide (kd < 9) = true := decide_eq_true (by omega)
  have d3 : decide ((0 : Int) ≤ (i : Int)) = true := decide_eq_true (by omega)
  have d4 : decide ((i : Int) < (x.g : Int)) = true := decide_eq_true (by omega)
  have k1 : (kd != 1) = true := by rw [bne_iff_ne]; omega
  have k2 : (kd != 2) = true := by rw [bne_iff_ne]; omega
  have k6 : (kd != 6) = true := by rw [bne_iff_ne]; omega
  have cE : Hid (∀ V, Calls Try.prog 44 #[.agg #[.int .i64 s, .int .u64 g]] V fun r w' => r = .returned (.bool false) ∧ Later V w') := fun V => as_bool (mentry_c s g V) hE
  clear f1 f2 h hE hk
  go_enter Try.func39, Try.ntmps39
  go_wp2_with fail
  rw [hwb.out]
  refine (mneed_yes _ _).mono ?_
  rintro e w9 ⟨rfl, rfl⟩
  go_wp2
  refine region_ghost (S := Later wb) (af := ?_) 14 gF0 gV0 gE0 gU0 (by kernel_rfl) (by kernel_rfl) (by kernel_rfl) (by decide) (by kernel_rfl) (fun _ h => h.drew) (Later.refl _) (fun _ _ h h2 => h.trans h2) gL0 gO0 ?_ ?_
  rotate_left
  · intro t
    repeat (first
      | (refine SeqT.val (v := ?_) (by rfl) (by rfl) (fun W hW => ?_) ?_; rotate_left; (· (go_simp; try with_reducible rfl)); try simp only [Act.put, List.setIfInBounds_toArray, List.set_cons_zero, List.set_cons_succ])
      | (refine SeqT.skip (by rfl) (by rfl) ?_; try simp only [Act.put, List.setIfInBounds_toArray, List.set_cons_zero, List.set_cons_succ])
      )
    exact SeqT.nil _
  intro t W hW hV
  refine wpList_is (l' := [_]) rfl ?_
  clear hV
  go_wp2_with fail
  refine (mneed_yes _ _).mono ?_
  rintro e w9 ⟨rfl, rfl⟩
  go_wp2_with fail
  refine (cE.out _).mono ?_
  rintro e w5 ⟨rfl, hL5⟩
  go_wp2_with fail
  refine (mneed_no _ _).mono ?_
  rintro e w9 ⟨rfl, rfl⟩
  exact ⟨rfl, Chg.of_later (hL.trans (hW.trans hL5)), rfl⟩

/-- what doing something that is watched comes to -/
def doesD (m : MonD) (tk : List E2) (y : W4) : Except Int (MonD × List E2) :=
  let i := y.2.1.toNat
  let e : E2 := (y.2.2.1, y.2.2.2)
  if y.1 < 1 ∨ 9 ≤ y.1 then .error 221
  else if y.2.1 < 0 ∨ (m.pinned.length : Int) ≤ y.2.1 then .error 2
  else if y.1 ≠ 1 ∧ y.1 ≠ 2 ∧ y.1 ≠ 6 ∧ entryOk e = false then .error 2
  else if y.1 = 1 then pinD m tk i
  else if y.1 = 2 then unpinD m tk i
  else if y.1 = 3 then getDD m tk i e
  else if y.1 = 6 then takeDD m tk i
  else if y.1 = 7 then retDD m tk e
  else if y.1 = 8 then givDD m tk e
  else touchDD m tk i y

theorem wdoes_c (N b : Nat) (x : WX) (m : MonD) (tk : List E2) (kd gi s g : Int) (w : World) (hN : N ≤ 900000) (hB : WB N x m tk) (h : WSt w b x m tk) :
    Calls Try.prog 39 #[.pointer (some ⟨b, 0, none⟩), .agg #[.int .i64 kd, .int .i64 gi, .int .i64 s, .int .u64 g]] w (MPost b x w (doesD m tk (kd, gi, s, g))) := by
  have hg := hB.1
  unfold doesD
  dsimp only
  by_cases h1 : kd < 1 ∨ 9 ≤ kd
  · rw [if_pos h1]; exact wdoesK_c b x m tk kd gi s g w h1 h
  rw [if_neg h1]
  by_cases h2 : gi < 0 ∨ (m.pinned.length : Int) ≤ gi
  · rw [if_pos h2]; exact wdoesG_c b x m tk kd gi s g w hg (by omega) (by omega) (by rw [← h.pn]; exact h2) h
  rw [if_neg h2]
  obtain ⟨i, rfl⟩ := Int.eq_ofNat_of_zero_le (show 0 ≤ gi by omega)
  have hi : i < x.g := by rw [← h.pn]; omega
  rw [Int.toNat_natCast]
  by_cases h3 : kd ≠ 1 ∧ kd ≠ 2 ∧ kd ≠ 6 ∧ entryOk (s, g) = false
  · rw [if_pos h3]; exact wdoesE_c b x m tk kd s g i w hg (by omega) hi h3.2.2.2 h
  rw [if_neg h3]
  have hE : kd ≠ 1 → kd ≠ 2 → kd ≠ 6 → entryOk (s, g) = true := fun a b c => by
    cases he : entryOk (s, g) with
    | true => rfl
    | false => exact absurd ⟨a, b, c, he⟩ h3
  have hn : x.n ≤ 1000000 := by have h3 := hB.2.2.1; simp only [arenaOk, Bool.and_eq_true, decide_eq_true_eq] at h3; rw [← h.sn]; omega
  rcases (show kd = 1 ∨ kd = 2 ∨ kd = 3 ∨ kd = 4 ∨ kd = 5 ∨ kd = 6 ∨ kd = 7 ∨ kd = 8 by omega) with rfl | rfl | rfl | rfl | rfl | rfl | rfl | rfl
  · exact wdoes1_c b x m tk s g i w hg hi h _ fun V hV => wpin_c b x m tk 1 s g i V hg hi (h.later hV)
  · exact wdoes2_c b x m tk s g i w hg hi h _ fun V hV => wunpin_c b x m tk 2 s g i V hg hi (h.later hV)
  · exact wdoes3_c b x m tk s g i w hg hi (hE (by decide) (by decide) (by decide)) h _ fun V hV => wget_c b x m tk 3 s g i V hg hi (by have := hB.row i; omega) (h.later hV)
  · exact wdoes4_c b x m tk s g i w hg hi (hE (by decide) (by decide) (by decide)) h _ fun V hV => wtouch_c N b x m tk 4 s g i V hN hB hi (h.later hV)
  · exact wdoes5_c b x m tk s g i w hg hi (hE (by decide) (by decide) (by decide)) h _ fun V hV => wtouch_c N b x m tk 5 s g i V hN hB hi (h.later hV)
  · exact wdoes6_c b x m tk s g i w hg hi h _ fun V hV => wtake_c N b x m tk 6 s g i V hN hB hi (h.later hV)
  · exact wdoes7_c b x m tk s g i w hg hi (hE (by decide) (by decide) (by decide)) h _ fun V hV => wret_c b x m tk 7 i s g V hn (h.later hV)
  · exact wdoes8_c b x m tk s g i w hg hi (hE (by decide) (by decide) (by decide)) h _ fun V hV => wgiv_c b x m tk 8 i s g V hB.2.2.2.1 hn (h.later hV)
end Go.Proofs.Ytdheckfndldbmaa

namespace Go.Proofs.Ytdheckfndldbmaa

/-- what holds of a monitor all the way -/
def WM (N : Nat) (m : MonD) (tk : List E2) : Prop := m.pinned.length ≤ 8 ∧ m.bad.length ≤ 16 ∧ arenaOk m.slabs = true ∧ (∀ s ∈ m.slabs, 0 ≤ s.2) ∧ (∀ l ∈ m.has, l.length ≤ N) ∧ tk.length ≤ N
theorem WM.wb {N : Nat} {m : MonD} {tk : List E2} (h : WM N m tk) {W : World} {b : Nat} {x : WX} (hS : WSt W b x m tk) : WB N x m tk := ⟨by rw [← hS.pn]; exact h.1, h.2⟩
theorem WM.mono {N N' : Nat} {m : MonD} {tk : List E2} (h : WM N m tk) (hN : N ≤ N') : WM N' m tk := ⟨h.1, h.2.1, h.2.2.1, h.2.2.2.1, fun l hl => Nat.le_trans (h.2.2.2.2.1 l hl) hN, Nat.le_trans h.2.2.2.2.2 hN⟩

theorem arenaOk_set {xs : List E2} (h : arenaOk xs = true) (i : Nat) {s : E2} (hs : slabOk s = true) : arenaOk (xs.set i s) = true := by
  simp only [arenaOk, Bool.and_eq_true, decide_eq_true_eq, List.all_eq_true, List.length_set] at *
  exact ⟨h.1, h.2.1, fun x hx => (List.mem_or_eq_of_mem_set hx).elim (h.2.2 x) (fun e => e ▸ hs)⟩
theorem arenaOk_slab {xs : List E2} (h : arenaOk xs = true) {i : Nat} (hi : i < xs.length) : slabOk (xs[i]?.getD (0, 0)) = true := by
  simp only [arenaOk, Bool.and_eq_true, decide_eq_true_eq, List.all_eq_true] at h
  exact h.2.2 _ (getD_mem hi)
theorem slabOk_iff {s : E2} : slabOk s = true ↔ 0 ≤ s.1 ∧ s.1 ≤ 2 ∧ s.2 ≤ 1099511627775 := by simp [slabOk]
theorem wf_set {xs : List E2} (h : ∀ s ∈ xs, 0 ≤ s.2) (i : Nat) {s : E2} (hs : 0 ≤ s.2) : ∀ t ∈ xs.set i s, 0 ≤ t.2 := fun t ht => (List.mem_or_eq_of_mem_set ht).elim (h t) (fun e => e ▸ hs)

theorem getD1_wm {N : Nat} {m : MonD} {tk : List E2} (h : WM N m tk) (i : Nat) (e : E2) : WM (N + 1) (getD1 m i e) tk := by
  unfold getD1
  split
  · exact h.mono (by omega)
  · refine ⟨h.1, h.2.1, h.2.2.1, h.2.2.2.1, fun l hl => ?_, by have := h.2.2.2.2.2; omega⟩
    rcases List.mem_or_eq_of_mem_set hl with h1 | h1
    · have := h.2.2.2.2.1 l h1; omega
    · subst h1
      rw [List.length_append]
      have : (m.has[i]?.getD []).length ≤ N := by
        cases hx : m.has[i]? with
        | none => simp
        | some r => exact h.2.2.2.2.1 r (List.mem_of_getElem? hx)
      simp only [List.length_cons, List.length_nil]; omega

/-- the slabs behind a taking, a retiring, a giving back -/
theorem takeA_ok {xs ys : List E2} {e : E2} (h : takeA xs = .ok (ys, e)) : arenaOk xs = true ∧ ∃ i, freeD xs = some i ∧ i < xs.length ∧ (xs[i]?.getD (0, 0)).1 = 0 ∧ ys = xs.set i (1, (xs[i]?.getD (0, 0)).2) ∧ e = ((i : Int), (xs[i]?.getD (0, 0)).2) := by
  unfold takeA at h
  split at h
  · rename_i hA
    split at h
    · rename_i i hF
      cases h
      refine ⟨hA, i, hF, ?_, ?_, rfl, rfl⟩
      · exact List.mem_range.1 (List.mem_of_find?_eq_some hF)
      · have := List.find?_some hF; simpa using this
    · cases h
  · cases h
theorem slabIs_ok {xs : List E2} {e : E2} {ts : List Int} (h : slabIs xs e ts = true) : meantD xs e = true ∧ 0 ≤ e.1 ∧ e.1.toNat < xs.length ∧ (xs[e.1.toNat]?.getD (0, 0)).2 = e.2 ∧ (xs[e.1.toNat]?.getD (0, 0)).1 ∈ ts := by
  simp only [slabIs, Bool.and_eq_true, decide_eq_true_eq] at h
  obtain ⟨h1, h2⟩ := h
  obtain ⟨a, b, c⟩ := meant_lt (s := e.1) (g := e.2) h1
  exact ⟨h1, a, by omega, c, h2⟩
theorem retA_ok {xs ys : List E2} {e : E2} (h : retA xs e = .ok ys) : arenaOk xs = true ∧ slabIs xs e [1] = true ∧ ys = xs.set e.1.toNat (2, (xs[e.1.toNat]?.getD (0, 0)).2) := by
  unfold retA retD at h
  split at h
  · rename_i hA
    split at h
    · rename_i hS; cases h; exact ⟨hA, hS, rfl⟩
    · cases h
  · cases h
theorem givA_ok {xs ys : List E2} {e : E2} (h : givA xs e = .ok ys) : arenaOk xs = true ∧ slabIs xs e [1, 2] = true ∧ (xs[e.1.toNat]?.getD (0, 0)).2 < 1099511627775 ∧ ys = xs.set e.1.toNat (0, (xs[e.1.toNat]?.getD (0, 0)).2 + 1) := by
  unfold givA givD at h
  split at h
  · rename_i hA
    split at h
    · rename_i hS
      split at h
      · rename_i hl; cases h; exact ⟨hA, hS, hl, rfl⟩
      · cases h
    · cases h
  · cases h
theorem arena_take {xs ys : List E2} {e : E2} (h : takeA xs = .ok (ys, e)) (hw : ∀ s ∈ xs, 0 ≤ s.2) : arenaOk ys = true ∧ (∀ s ∈ ys, 0 ≤ s.2) ∧ entryOk e = true := by
  obtain ⟨hA, i, hF, hi, ht, rfl, rfl⟩ := takeA_ok h
  have hs := slabOk_iff.1 (arenaOk_slab hA hi)
  have hg := hw _ (getD_mem (d := (0, 0)) hi)
  refine ⟨arenaOk_set hA i (slabOk_iff.2 ⟨by simp, by simp, hs.2.2⟩), wf_set hw i hg, ?_⟩
  have hn : xs.length ≤ 128 := by simp only [arenaOk, Bool.and_eq_true, decide_eq_true_eq] at hA; exact hA.2.1
  simp only [entryOk, Bool.and_eq_true, decide_eq_true_eq]
  exact ⟨by omega, by omega, hs.2.2⟩
theorem arena_ret {xs ys : List E2} {e : E2} (h : retA xs e = .ok ys) (hw : ∀ s ∈ xs, 0 ≤ s.2) : arenaOk ys = true ∧ (∀ s ∈ ys, 0 ≤ s.2) := by
  obtain ⟨hA, hS, rfl⟩ := retA_ok h
  obtain ⟨-, -, hi, -, -⟩ := slabIs_ok hS
  exact ⟨arenaOk_set hA _ (slabOk_iff.2 ⟨by simp, by simp, (slabOk_iff.1 (arenaOk_slab hA hi)).2.2⟩), wf_set hw _ (show 0 ≤ (xs[e.1.toNat]?.getD (0, 0)).2 from hw _ (getD_mem hi))⟩
theorem arena_giv {xs ys : List E2} {e : E2} (h : givA xs e = .ok ys) (hw : ∀ s ∈ xs, 0 ≤ s.2) : arenaOk ys = true ∧ (∀ s ∈ ys, 0 ≤ s.2) := by
  obtain ⟨hA, hS, hl, rfl⟩ := givA_ok h
  obtain ⟨-, -, hi, -, -⟩ := slabIs_ok hS
  have := hw _ (getD_mem (d := (0, 0)) hi)
  exact ⟨arenaOk_set hA _ (slabOk_iff.2 ⟨by simp, by simp, by simp only; omega⟩), wf_set hw _ (by simp only; omega)⟩

theorem doesD_wm {N : Nat} {m m' : MonD} {tk tk' : List E2} {y : W4} (h : WM N m tk) (hd : doesD m tk y = .ok (m', tk')) : WM (N + 1) m' tk' := by
  unfold doesD at hd
  dsimp only at hd
  split at hd; · cases hd
  split at hd; · cases hd
  split at hd; · cases hd
  split at hd
  · unfold pinD at hd
    split at hd; · cases hd
    cases hd
    exact ⟨by simp [h.1], (h.mono (Nat.le_succ N)).2⟩
  split at hd
  · unfold unpinD at hd
    split at hd
    · cases hd
      refine ⟨by simp [h.1], h.2.1, h.2.2.1, h.2.2.2.1, fun l hl => ?_, by have := h.2.2.2.2.2; omega⟩
      rcases List.mem_or_eq_of_mem_set hl with h1 | h1
      · have := h.2.2.2.2.1 l h1; omega
      · subst h1; simp
    · cases hd
  split at hd
  · unfold getDD at hd
    split at hd
    · cases hd; exact getD1_wm h _ _
    · cases hd
  split at hd
  · unfold takeDD at hd
    split at hd
    · split at hd
      · cases hd
      · rename_i hp ys e hA
        obtain ⟨h1, h2, -⟩ := arena_take hA h.2.2.2.1
        rw [getDD, if_pos (by assumption)] at hd
        cases hd
        have := getD1_wm (N := N) (m := { m with slabs := ys }) (tk := []) ⟨h.1, h.2.1, h1, h2, h.2.2.2.2.1, Nat.zero_le _⟩ y.2.1.toNat e
        exact ⟨this.1, this.2.1, this.2.2.1, this.2.2.2.1, this.2.2.2.2.1, by rw [List.length_append]; have := h.2.2.2.2.2; simp only [List.length_cons, List.length_nil]; omega⟩
    · cases hd
  split at hd
  · unfold retDD at hd
    split at hd
    · cases hd
    · rename_i ys hA
      obtain ⟨h1, h2⟩ := arena_ret hA h.2.2.2.1
      cases hd
      have h := h.mono (Nat.le_succ N)
      exact ⟨h.1, h.2.1, h1, h2, h.2.2.2.2⟩
  split at hd
  · unfold givDD at hd
    split at hd
    · cases hd
    · rename_i ys hA
      obtain ⟨h1, h2⟩ := arena_giv hA h.2.2.2.1
      cases hd
      have h := h.mono (Nat.le_succ N)
      exact ⟨h.1, h.2.1, h1, h2, h.2.2.2.2⟩
  · unfold touchDD at hd
    split at hd
    · cases hd
      unfold touchM
      split
      · rename_i hc
        have h := h.mono (Nat.le_succ N)
        exact ⟨h.1, by rw [List.length_append]; simp only [List.length_cons, List.length_nil]; omega, h.2.2⟩
      · exact h.mono (Nat.le_succ N)
    · cases hd
end Go.Proofs.Ytdheckfndldbmaa

namespace Go.Proofs.Ytdheckfndldbmaa
open Go.RowKit
attribute [local go_sem] merge_t merge_f merge_a merge_o

def emptyW : Array Value := #[.slice none 0 0, .slice none 0 0, .slice none 0 0, .slice none 0 0, .slice none 0 0]
/-- what the monitor's tries comes to -/
def TriesP (res : Except Int (MonD × List E2)) (w : World) (r : Ending) (w' : World) : Prop := Later w w' ∧
  match res with
  | .error k => ∃ b, r = .returned (.tuple #[.pointer (some ⟨b, 0, none⟩), .int .i64 k]) ∧ Box w' b emptyW 85
  | .ok s => ∃ b x', r = .returned (.tuple #[.pointer (some ⟨b, 0, none⟩), .int .i64 0]) ∧ WSt w' b x' s.1 s.2 ∧ ∀ k, x'.fp b k → w.heap.size ≤ k

theorem tries_box (w : World) (x0 x1 x2 x3 : Value) : ∃ wb, Hid (((w.alloc (.cells #[x0, x1, x2, x3] 32)).alloc (.cells #[.pointer none] 79)).alloc (.cells #[.int .i64 0] 33) = wb) ∧ Later w wb ∧ wb.heap.size = w.heap.size + 3 ∧
    Box wb w.heap.size #[x0, x1, x2, x3] 32 ∧ Box wb (w.heap.size + 1) #[.pointer none] 79 ∧ Box wb (w.heap.size + 1 + 1) #[.int .i64 0] 33 := by
  refine ⟨_, rfl, (((Later.refl _).alloc _).alloc _).alloc _, by simp, ((Box.new _ _ _).alloc _).alloc _, ?_, ?_⟩
  · have := Box.new (w.alloc (.cells #[x0, x1, x2, x3] 32)) #[.pointer none] 79
    rw [World.size_alloc] at this; exact this.alloc _
  · have := Box.new ((w.alloc (.cells #[x0, x1, x2, x3] 32)).alloc (.cells #[.pointer none] 79)) #[.int .i64 0] 33
    simpa only [World.size_alloc] using this

set_option maxRecDepth 100000 in
set_option maxHeartbeats 8000000 in
theorem mtries_bad (B : Nat) (v fv : Value) (m : MonD) (w : World) (hB : B ≤ 1000000) (hM : RMon B w v m) (hOk : monOk m = false) (res : Except Int (MonD × List E2)) (hres : res = .error 220) :
    Calls Try.prog 37 #[v, fv] w (TriesP res w) := by
  have hmf : ∀ (fn : Fn) (first cap : Array Value) (w : World), (Instr.makeFunc fn first cap).run Try.prog w = .ok (.func fn first cap) w := fun _ _ _ _ => rfl
  subst hres
  have HM := Lib.hid hM
  obtain ⟨A0, n0, c0, A1, n1, c1, A2, n2, c2, A3, n3, c3, rfl, -, -, -, -, -, -⟩ := hM
  obtain ⟨wb, hwb, hL, hwz, b2, b4, b5⟩ := tries_box w (.slice A0 n0 c0) (.slice A1 n1 c1) (.slice A2 n2 c2) (.slice A3 n3 c3)
  have cK : Hid (∀ W, Later wb W → Calls Try.prog 20 #[.agg #[.slice A0 n0 c0, .slice A1 n1 c1, .slice A2 n2 c2, .slice A3 n3 c3]] W fun r w' => r = .returned (.int .i64 220) ∧ Later W w') := fun W hW => by
    have := mcheck_c B _ m W hB (HM.out.later (hL.trans hW))
    rwa [ckM_bad hOk] at this
  have B4 := Lib.hid b4
  have B5 := Lib.hid b5
  have q0 := cel (b2.cell (i := 0) rfl)
  have q1 := cel (b2.cell (i := 1) rfl)
  have q2 := cel (b2.cell (i := 2) rfl)
  have q3 := cel (b2.cell (i := 3) rfl)
  have Hwz := Lib.hid hwz
  clear b2 b4 b5 hOk hwz
  go_enter_defers Try.func37, Try.ntmps37
  go_wp2_with fail
  rw [hwb.out]
  refine (cK.out _ (Later.refl _)).mono ?_
  rintro e w1 ⟨rfl, hL1⟩
  go_wp2_with (go_at_call 64; (with_reducible refine (mneed_no _ _).mono ?_); rintro e w9 ⟨rfl, rfl⟩)
  refine leaves_cons (f := 63) (args := #[.pointer (some ⟨w.heap.size + 1, 0, none⟩), .pointer (some ⟨w.heap.size + 1 + 1, 0, none⟩)]) (by simp) (by simp [go_sem]) ?_
  have k4 := B4.out.later hL1
  have k5 := B5.out.later hL1
  refine (mcatch_panic _ _ _ _ _ _ k4 k5).mono ?_
  rintro e u' w2 ⟨rfl, rfl, hw2⟩
  have hz1 : w.heap.size + 3 ≤ w1.heap.size := by have := Hwz.out; have := hL1.sz; omega
  have g0 : Box w2 w1.heap.size emptyW 85 := by
    rw [hw2]; exact ((Box.new w1 _ _).set_other (by omega) _ _).set_other (by omega) _ _
  have g4 : Box w2 (w.heap.size + 1) #[.pointer (some ⟨w1.heap.size, 0, none⟩)] 79 := by
    rw [hw2]; have := ((k4.alloc (.cells emptyW 85)).set 0 (.pointer (some ⟨w1.heap.size, 0, none⟩))).set_other (g' := w.heap.size + 1 + 1) (by omega) 0 (.int .i64 220)
    simpa [emptyW] using this
  have g5 : Box w2 (w.heap.size + 1 + 1) #[.int .i64 220] 33 := by
    rw [hw2]; have := ((k5.alloc (.cells emptyW 85)).set_other (g' := w.heap.size + 1) (by omega) 0 (.pointer (some ⟨w1.heap.size, 0, none⟩))).set 0 (.int .i64 220)
    simpa [emptyW] using this
  have hL2 : Later w w2 := by rw [hw2]; exact (((hL.trans hL1).alloc _).set (by omega) _).set (by omega) _
  have c4 := g4.cell (i := 0) rfl
  have c5 := g5.cell (i := 0) rfl
  clear hw2
  show Leaves _ _ _ _ _ (settle _) _
  refine ⟨.tuple #[.pointer (some ⟨w1.heap.size, 0, none⟩), .int .i64 220], by rw [results_cc rfl]; go_simp, hL2, ?_⟩
  exact ⟨_, rfl, g0⟩
end Go.Proofs.Ytdheckfndldbmaa

namespace Go.Proofs.Ytdheckfndldbmaa
open Go.RowKit
attribute [local go_sem] merge_t merge_f merge_a merge_o

/-- the loop: k rows are copied -/
structure TSt (W : World) (b D n P g Bb nb : Nat) (m : MonD) (hv : Value) (rows : List Nat) (k : Nat) : Prop where
  bx : Box W b #[.slice (some ⟨D, 0, none⟩) n n, .slice (some ⟨P, 0, none⟩) g g, hv, .slice (some ⟨Bb, 0, none⟩) nb nb, .slice none 0 0] 85
  sl : Box W D (flat encE m.slabs).toArray 47
  pi : Box W P (flat encB m.pinned).toArray 4
  ba : Box W Bb (flat encW m.bad).toArray 45
  rl : rows.length = k
  ha : W.ownsRow 0 54 1 hv k ((List.range k).map fun j => .slice (some ⟨rows[j]?.getD 0, 0, none⟩) (m.has[j]?.getD []).length (m.has[j]?.getD []).length)
  ro : ∀ j, j < k → Box W (rows[j]?.getD 0) (flat encE (m.has[j]?.getD [])).toArray 43
  nd : rows.Nodup

/-! the region of the loop: 7 copies a row, 8 makes the row of rows to be appended, 9 appends it -/
def trR (hv : Value) (k : Nat) (W W' : World) : Prop := if k = 9 then Chg (fun j => hv.ownBlock = some j) W W' else Later W W'
def trN (hv : Value) (k0 : Nat) (vals : List Value) (k : Nat) (W : World) : Prop := k = 9 → W.ownsRow 0 54 1 hv k0 vals
def trV (w : World) (hv : Value) (k0 : Nat) (vals : List Value) (r : List E2) : Nat → (Nat → Gh) → World → Prop
  | 7, t, W => w.heap.size ≤ (t 7).n ∧ Box W (t 7).n (flat encE r).toArray 43
  | 8, t, W => w.heap.size ≤ (t 8).n ∧ Box W (t 8).n #[.slice (some ⟨(t 7).n, 0, none⟩) r.length r.length] 54
  | 9, t, W => W.ownsRow 0 54 1 (.slice (t 9).A (k0 + 1) (t 9).c) (k0 + 1) (vals ++ [.slice (some ⟨(t 7).n, 0, none⟩) r.length r.length]) ∧ ∀ k, (Value.slice (t 9).A (k0 + 1) (t 9).c).ownBlock = some k → hv.ownBlock = some k ∨ w.heap.size ≤ k
  | _, _, _ => True
def trF (nr k0 : Nat) : Nat → Gh → Value
  | 7, s => .slice (some ⟨s.n, 0, none⟩) nr nr
  | 9, s => .slice s.A (k0 + 1) s.c
  | _, s => .slice (some ⟨s.n, 0, none⟩) 1 1
def trE (i : Nat) : Bool := i == 7 || i == 8 || i == 9
def trU (i : Nat) : List Nat := if i == 8 || i == 9 then [7] else []
theorem trSL {hv : Value} {w : World} : ∀ i W W', Chg (fun j => hv.ownBlock = some j) w W → trR hv i W W' → Chg (fun j => hv.ownBlock = some j) w W' := fun i W W' h hR => by
  unfold trR at hR; split at hR
  · exact h.trans hR
  · exact h.later hR
theorem trVL {w : World} {hv : Value} {k0 : Nat} {vals : List Value} {r : List E2} (hu : ∀ k, hv.ownBlock = some k → k < w.heap.size) : ∀ i j t W W', i ≠ j → trV w hv k0 vals r j t W → trR hv i W W' → trV w hv k0 vals r j t W' := fun i j t W W' hij h hR => by
  unfold trV at *
  split at h
  · refine ⟨h.1, ?_⟩
    unfold trR at hR; split at hR
    · exact h.2.chg hR (fun e => by have := hu _ e; omega)
    · exact h.2.later hR
  · refine ⟨h.1, ?_⟩
    unfold trR at hR; split at hR
    · exact h.2.chg hR (fun e => by have := hu _ e; omega)
    · exact h.2.later hR
  · unfold trR at hR
    rw [if_neg hij] at hR
    exact ⟨hR.own h.1, h.2⟩
  · trivial
theorem trNL {hv : Value} {k0 : Nat} {vals : List Value} : ∀ i j W W', i ≠ j → trN hv k0 vals j W → trR hv i W W' → trN hv k0 vals j W' := fun i j W W' hij h hR hj => by
  unfold trR at hR
  rw [if_neg (by omega)] at hR
  exact hR.own (h hj)
theorem trLoc {w : World} {hv : Value} {k0 : Nat} {vals : List Value} {r : List E2} : ∀ j (t t' : Nat → Gh) W, t j = t' j → (∀ k, k ∈ trU j → t k = t' k) → trV w hv k0 vals r j t W → trV w hv k0 vals r j t' W := by
  intro j t t' W h hu hV
  unfold trV at *
  split at hV
  · rw [← h]; exact hV
  · rw [← h, ← hu 7 (by simp [trU])]; exact hV
  · rw [← h, ← hu 7 (by simp [trU])]; exact hV
  · trivial

theorem TSt.later {W W' : World} {b D n P g Bb nb : Nat} {m : MonD} {hv : Value} {rows : List Nat} {k : Nat} (h : TSt W b D n P g Bb nb m hv rows k) (hL : Later W W') : TSt W' b D n P g Bb nb m hv rows k :=
  ⟨h.bx.later hL, h.sl.later hL, h.pi.later hL, h.ba.later hL, h.rl, hL.own h.ha, fun j hj => (h.ro j hj).later hL, h.nd⟩
theorem TSt.next {W0 W : World} {b D n P g Bb nb : Nat} {m : MonD} {hv : Value} {rows : List Nat} {k R : Nat} {A : Option Addr} {c : Nat} (h : TSt W0 b D n P g Bb nb m hv rows k) (hC : Chg (fun j => hv.ownBlock = some j) W0 W)
    (hR : W0.heap.size ≤ R) (hro : Box W R (flat encE (m.has[k]?.getD [])).toArray 43)
    (ho : W.ownsRow 0 54 1 (.slice A (k + 1) c) (k + 1) (((List.range k).map fun j => .slice (some ⟨rows[j]?.getD 0, 0, none⟩) (m.has[j]?.getD []).length (m.has[j]?.getD []).length) ++ [.slice (some ⟨R, 0, none⟩) (m.has[k]?.getD []).length (m.has[k]?.getD []).length])) :
    TSt (W.setCell ⟨b, 2, none⟩ (.slice A (k + 1) c)) b D n P g Bb nb m (.slice A (k + 1) c) (rows ++ [R]) (k + 1) ∧ Chg (fun j => j = b ∨ hv.ownBlock = some j) W0 (W.setCell ⟨b, 2, none⟩ (.slice A (k + 1) c)) := by
  have hbx := h.bx
  have hh : ∀ j, hv.ownBlock = some j → ∀ cs t, Box W0 j cs t → t = 54 := fun j hj cs t hb => by
    by_cases ht : t = 54
    · exact ht
    · exact absurd hj (own_ne h.ha (show W0.heap[j]? = _ from hb) (fun e => ht e.symm))
  have hCb : Chg (fun j => j = b ∨ hv.ownBlock = some j) W0 (W.setCell ⟨b, 2, none⟩ (.slice A (k + 1) c)) := Chg.set (S := fun j => j = b ∨ hv.ownBlock = some j) (hC.mono fun _ _ e => .inr e) (.inl rfl) _
  have hbx1 := hbx.chg hC (fun e => absurd (hh _ e _ _ hbx) (by decide))
  have keep : ∀ {j : Nat} {cs : Array Value} {t : TypeId}, Box W0 j cs t → t ≠ 54 → t ≠ 85 → Box (W.setCell ⟨b, 2, none⟩ (.slice A (k + 1) c)) j cs t := fun {j cs t} hj h1 h2 => hj.chg hCb (by
    rintro (e | e)
    · subst e; exact hj.ne hbx h2 rfl
    · exact h1 (hh _ e _ _ hj))
  have hro' : Box (W.setCell ⟨b, 2, none⟩ (.slice A (k + 1) c)) R (flat encE (m.has[k]?.getD [])).toArray 43 := hro.set_other (hro.ne hbx1 (by decide)) _ _
  have hlt : ∀ j, j < k → rows[j]?.getD 0 < W0.heap.size := fun j hj => (h.ro j hj).lt
  refine ⟨⟨by simpa using hbx1.set 2 (.slice A (k + 1) c), keep h.sl (by decide) (by decide), keep h.pi (by decide) (by decide), keep h.ba (by decide) (by decide), by rw [List.length_append, h.rl]; rfl, ?_, fun j hj => ?_, ?_⟩, hCb⟩
  · have e1 : ((List.range (k + 1)).map fun j => Value.slice (some ⟨(rows ++ [R])[j]?.getD 0, 0, none⟩) (m.has[j]?.getD []).length (m.has[j]?.getD []).length) =
        ((List.range k).map fun j => .slice (some ⟨rows[j]?.getD 0, 0, none⟩) (m.has[j]?.getD []).length (m.has[j]?.getD []).length) ++ [.slice (some ⟨R, 0, none⟩) (m.has[k]?.getD []).length (m.has[k]?.getD []).length] := by
      rw [List.range_succ, List.map_append]
      congr 1
      · refine List.map_congr_left fun j hj => ?_
        rw [List.getElem?_append_left (by rw [h.rl]; exact List.mem_range.1 hj)]
      · simp [List.getElem?_append_right, h.rl]
    rw [e1]
    exact ownsRow_setCell_other ho (own_ne ho (show W.heap[b]? = _ from hbx1) (by decide)) _
  · by_cases hjk : j < k
    · rw [List.getElem?_append_left (by rw [h.rl]; exact hjk)]
      exact keep (h.ro j hjk) (by decide) (by decide)
    · obtain rfl : j = k := by omega
      rw [List.getElem?_append_right (by rw [h.rl]; exact Nat.le_refl _), h.rl]
      simpa using hro'
  · refine List.nodup_append.2 ⟨h.nd, by simp, ?_⟩
    intro a ha b' hb' e
    obtain ⟨j, hj, rfl⟩ := List.getElem_of_mem ha
    have h1 := hlt j (by rw [← h.rl]; exact hj)
    rw [List.getElem?_eq_getElem hj, Option.getD_some] at h1
    simp at hb'
    omega

/-- all rows are copied: a watcher -/
theorem TSt.done {W : World} {b D n P g Bb nb : Nat} {m : MonD} {A : Option Addr} {c : Nat} {rows : List Nat} (h : TSt W b D n P g Bb nb m (.slice A g c) rows g) (hg : 0 < g) (hn : m.slabs.length = n) (hpn : m.pinned.length = g) (hhn : m.has.length = g) (hbn : m.bad.length = nb) (hb16 : nb ≤ maxLen) (hrl : ∀ l ∈ m.has, l.length ≤ maxLen) :
    ∃ H, A = some ⟨H, 0, none⟩ ∧ WSt W b ⟨D, n, P, g, H, c, (List.range g).map fun j => .slice (some ⟨rows[j]?.getD 0, 0, none⟩) (m.has[j]?.getD []).length (m.has[j]?.getD []).length, .slice (some ⟨Bb, 0, none⟩) nb nb, .slice none 0 0⟩ m [] := by
  obtain ⟨H, rfl⟩ : ∃ H, A = some ⟨H, 0, none⟩ := by
    rcases h.ha.2 with ⟨hn, _⟩ | ⟨g', cap, cur, hs, _⟩
    · cases hn; omega
    · cases hs; exact ⟨g', rfl⟩
  have hval : ∀ (j : Nat) (u : Value), ((List.range g).map fun j => Value.slice (some ⟨rows[j]?.getD 0, 0, none⟩) (m.has[j]?.getD []).length (m.has[j]?.getD []).length)[j]? = some u → j < g ∧ u = .slice (some ⟨rows[j]?.getD 0, 0, none⟩) (m.has[j]?.getD []).length (m.has[j]?.getD []).length := fun j u hu => by
    rw [List.getElem?_map] at hu
    cases hr : (List.range g)[j]? with
    | none => rw [hr] at hu; cases hu
    | some j' =>
      rw [hr] at hu
      have h1 := List.getElem?_eq_some_iff.1 hr
      obtain ⟨h2, h3⟩ := h1
      rw [List.getElem_range] at h3
      subst h3
      cases hu
      rw [List.length_range] at h2
      exact ⟨h2, rfl⟩
  have hmx : ∀ j : Nat, (m.has[j]?.getD []).length ≤ maxLen := fun j => by
    cases hx : m.has[j]? with
    | none => simp
    | some r => exact hrl r (List.mem_of_getElem? hx)
  refine ⟨H, rfl, h.bx, h.sl, hn, h.pi, hpn, h.ha, hhn, fun j hj => ?_, ?_, ?_, World.ownsRow_nil _ _ _ _, ?_⟩
  · refine ⟨some ⟨rows[j]?.getD 0, 0, none⟩, (m.has[j]?.getD []).length, (m.has[j]?.getD []).length, by simp [hj], ?_, rfl⟩
    have hl := flat_len enc_E (m.has[j]?.getD [])
    refine ⟨hl, .inr ⟨_, _, _, rfl, Nat.zero_le _, h.ro j hj, Nat.le_refl _, hmx j, by simp [hl], ?_⟩⟩
    rw [← hl]; exact List.take_length
  · intro i j hij u v k hu hv hk
    obtain ⟨hi, rfl⟩ := hval i u hu
    obtain ⟨hj, rfl⟩ := hval j v hv
    simp only [Value.ownBlock, Option.some.injEq] at hk
    subst hk
    intro e
    simp only [Value.ownBlock, Option.some.injEq] at e
    have hir : i < rows.length := by rw [h.rl]; exact hi
    have hjr : j < rows.length := by rw [h.rl]; exact hj
    rw [List.getElem?_eq_getElem hir, List.getElem?_eq_getElem hjr, Option.getD_some, Option.getD_some] at e
    exact hij ((List.getElem_inj h.nd).1 e.symm)
  · have hl := flat_len enc_W m.bad
    rw [hbn] at hl
    refine ⟨by rw [hbn]; exact hl, .inr ⟨Bb, nb, _, by rw [hbn], Nat.zero_le _, h.ba, by omega, hb16, by simp [hl], ?_⟩⟩
    rw [hbn, ← hl]; exact List.take_length
  · intro j u k hu hk e
    simp [Value.ownBlock] at e
end Go.Proofs.Ytdheckfndldbmaa
