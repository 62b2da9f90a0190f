/- slices.Equal, at each type of elements: are the two rows the same. Made by a small program of this session. | slices.Index, Contains, IndexFunc, ContainsFunc. Made by a small program of this session. | Rows of elements of several cells, laid flat: read, copied, owned. | slices.Clone and the monitor's own: a row of its own with the same elements. Made by a small program of this session. -/
import Derived.Test.YtdheckfndldbmaaM01
import Derived.Laws.CopyOwn
import Derived.Maps.AppendAt
namespace Go.Proofs.Ytdheckfndldbmaa
open Go.RowKit
attribute [local go_sem] merge_t merge_f merge_a merge_o

theorem eq_take_snoc {α : Type} (xs ys : List α) (d : α) (k n : Nat) (h : xs.take k = ys.take k) (he : xs[k]?.getD d = ys[k]?.getD d) (hx : xs.length = n) (hy : ys.length = n) (hk : k < n) : xs.take (k + 1) = ys.take (k + 1) := by
  have h1 : k < xs.length := by omega
  have h2 : k < ys.length := by omega
  rw [List.take_succ_eq_append_getElem h1, List.take_succ_eq_append_getElem h2, h]
  rw [List.getElem?_eq_getElem h1, List.getElem?_eq_getElem h2] at he
  simp only [Option.getD_some] at he
  rw [he]
theorem ne_of_getD {α : Type} {xs ys : List α} (d : α) (k : Nat) (he : ¬ xs[k]?.getD d = ys[k]?.getD d) : xs ≠ ys := fun h => he (by rw [h])
theorem eq_of_take {α : Type} {xs ys : List α} {k n : Nat} (h : xs.take k = ys.take k) (hx : xs.length = n) (hy : ys.length = n) (hk : n ≤ k) : xs = ys := by
  rwa [List.take_of_length_le (by omega), List.take_of_length_le (by omega)] at h

set_option maxHeartbeats 600000 in
theorem equalE_c (A : Option Addr) (n cap : Nat) (xs : List E2) (A' : Option Addr) (n' cap' : Nat) (ys : List E2) (w : World) (hm : n ≤ 9223372036854775807) (hR : Rd 2 encE w A n xs) (hR' : Rd 2 encE w A' n' ys) :
    Calls Try.prog 30 #[.slice A n cap, .slice A' n' cap'] w fun r w' => r = .returned (.bool (decide (xs = ys))) ∧ Later w w' := by
  have HR : Hid (Rd 2 encE w A n xs) := hR
  have HR' : Hid (Rd 2 encE w A' n' ys) := hR'
  have Hx : Hid (xs.length = n) := hR.1
  have Hy : Hid (ys.length = n') := hR'.1
  clear hR hR'
  by_cases hn : n = n'
  · subst hn
    go_enter Try.func30, Try.ntmps30
    go_wp2
    go_loopw [13] (fun i wr => ∃ k : Nat, k ≤ n ∧ i = .int .i64 k ∧ xs.take k = ys.take k ∧ Later w wr) (fun i _ => n - (intOf i).toNat)
    case atStart => exact ⟨0, Nat.zero_le _, rfl, by simp, Later.refl _⟩
    case round =>
      obtain ⟨k, hk, rfl, heq, hB⟩ := hrel
      have Heq : Hid (xs.take k = ys.take k) := heq
      clear heq
      by_cases hlt : k < n
      · obtain ⟨b, off, rfl, x0, x1⟩ := HR.out.atE k hlt
        obtain ⟨b', off', rfl, y0, y1⟩ := HR'.out.atE k hlt
        by_cases he : (xs[k]?.getD (0, 0)) = (ys[k]?.getD (0, 0))
        · have He : Hid ((xs[k]?.getD (0, 0)) = (ys[k]?.getD (0, 0))) := he
          have Hv : Hid ((!decide ((xs[k]?.getD (0, 0)).1 = (ys[k]?.getD (0, 0)).1) || (!decide ((xs[k]?.getD (0, 0)).2 = (ys[k]?.getD (0, 0)).2))) = false) := by show _ = _; rw [He.out]; simp
          clear he
          go_wp2
          refine region_draw (S := Later w) (af := ?_) (by kernel_rfl) (by kernel_rfl) (fun _ h => h.drew) hB ?_ ?_
          rotate_left
          · repeat (first
              | (refine SeqL.val (v := ?_) (by rfl) (fun W hW => ?_) ?_; rotate_left; (· (go_simp; try with_reducible rfl)); try simp only [Act.put, List.setIfInBounds_toArray, List.set_cons_zero, List.set_cons_succ])
              | (refine SeqL.skip (by rfl) ?_; try simp only [Act.put, List.setIfInBounds_toArray, List.set_cons_zero, List.set_cons_succ])
              )
            exact SeqL.nil _
          intro w1 hL1
          rw [Hv.out]
          go_wp2
          go_roundw
          case rel => exact ⟨k + 1, by omega, by go_num, eq_take_snoc xs ys (0, 0) k n Heq.out He.out Hx.out Hy.out hlt, hL1⟩
          case measure => simp [intOf]; omega
        · have He : Hid (¬ (xs[k]?.getD (0, 0)) = (ys[k]?.getD (0, 0))) := he
          have Hv : Hid ((!decide ((xs[k]?.getD (0, 0)).1 = (ys[k]?.getD (0, 0)).1) || (!decide ((xs[k]?.getD (0, 0)).2 = (ys[k]?.getD (0, 0)).2))) = true) := by show _ = _; have := He.out; simp only [Prod.ext_iff] at this; simp only [Bool.or_eq_true, Bool.not_eq_true', decide_eq_false_iff_not]; omega
          clear he
          go_wp2
          refine region_draw (S := Later w) (af := ?_) (by kernel_rfl) (by kernel_rfl) (fun _ h => h.drew) hB ?_ ?_
          rotate_left
          · repeat (first
              | (refine SeqL.val (v := ?_) (by rfl) (fun W hW => ?_) ?_; rotate_left; (· (go_simp; try with_reducible rfl)); try simp only [Act.put, List.setIfInBounds_toArray, List.set_cons_zero, List.set_cons_succ])
              | (refine SeqL.skip (by rfl) ?_; try simp only [Act.put, List.setIfInBounds_toArray, List.set_cons_zero, List.set_cons_succ])
              )
            exact SeqL.nil _
          intro w1 hL1
          rw [Hv.out]
          go_wp2
          go_ret
          exact ⟨ret_bool (by simp [ne_of_getD (0, 0) k He.out]), hL1⟩
      · go_wp2
        go_ret
        exact ⟨ret_bool (by simp [eq_of_take Heq.out Hx.out Hy.out (by omega)]), hB⟩
  · have hne : ((n : Int) != n') = true := by rw [bne_iff_ne]; omega
    have Hne : Hid (¬ n = n') := hn
    clear hn
    go_enter Try.func30, Try.ntmps30
    go_wp2
    go_ret
    exact ⟨ret_bool (by have h1 := Hx.out; have h2 := Hy.out; have h3 := Hne.out; symm; rw [decide_eq_false_iff_not]; intro h; rw [h] at h1; omega), Later.refl _⟩

set_option maxHeartbeats 600000 in
theorem equalS_c (A : Option Addr) (n cap : Nat) (xs : List E2) (A' : Option Addr) (n' cap' : Nat) (ys : List E2) (w : World) (hm : n ≤ 9223372036854775807) (hR : Rd 2 encE w A n xs) (hR' : Rd 2 encE w A' n' ys) :
    Calls Try.prog 77 #[.slice A n cap, .slice A' n' cap'] w fun r w' => r = .returned (.bool (decide (xs = ys))) ∧ Later w w' := by
  have HR : Hid (Rd 2 encE w A n xs) := hR
  have HR' : Hid (Rd 2 encE w A' n' ys) := hR'
  have Hx : Hid (xs.length = n) := hR.1
  have Hy : Hid (ys.length = n') := hR'.1
  clear hR hR'
  by_cases hn : n = n'
  · subst hn
    go_enter Try.func77, Try.ntmps77
    go_wp2
    go_loopw [13] (fun i wr => ∃ k : Nat, k ≤ n ∧ i = .int .i64 k ∧ xs.take k = ys.take k ∧ Later w wr) (fun i _ => n - (intOf i).toNat)
    case atStart => exact ⟨0, Nat.zero_le _, rfl, by simp, Later.refl _⟩
    case round =>
      obtain ⟨k, hk, rfl, heq, hB⟩ := hrel
      have Heq : Hid (xs.take k = ys.take k) := heq
      clear heq
      by_cases hlt : k < n
      · obtain ⟨b, off, rfl, x0, x1⟩ := HR.out.atE k hlt
        obtain ⟨b', off', rfl, y0, y1⟩ := HR'.out.atE k hlt
        by_cases he : (xs[k]?.getD (0, 0)) = (ys[k]?.getD (0, 0))
        · have He : Hid ((xs[k]?.getD (0, 0)) = (ys[k]?.getD (0, 0))) := he
          have Hv : Hid ((!decide ((xs[k]?.getD (0, 0)).1 = (ys[k]?.getD (0, 0)).1) || (!decide ((xs[k]?.getD (0, 0)).2 = (ys[k]?.getD (0, 0)).2))) = false) := by show _ = _; rw [He.out]; simp
          clear he
          go_wp2
          refine region_draw (S := Later w) (af := ?_) (by kernel_rfl) (by kernel_rfl) (fun _ h => h.drew) hB ?_ ?_
          rotate_left
          · repeat (first
              | (refine SeqL.val (v := ?_) (by rfl) (fun W hW => ?_) ?_; rotate_left; (· (go_simp; try with_reducible rfl)); try simp only [Act.put, List.setIfInBounds_toArray, List.set_cons_zero, List.set_cons_succ])
              | (refine SeqL.skip (by rfl) ?_; try simp only [Act.put, List.setIfInBounds_toArray, List.set_cons_zero, List.set_cons_succ])
              )
            exact SeqL.nil _
          intro w1 hL1
          rw [Hv.out]
          go_wp2
          go_roundw
          case rel => exact ⟨k + 1, by omega, by go_num, eq_take_snoc xs ys (0, 0) k n Heq.out He.out Hx.out Hy.out hlt, hL1⟩
          case measure => simp [intOf]; omega
        · have He : Hid (¬ (xs[k]?.getD (0, 0)) = (ys[k]?.getD (0, 0))) := he
          have Hv : Hid ((!decide ((xs[k]?.getD (0, 0)).1 = (ys[k]?.getD (0, 0)).1) || (!decide ((xs[k]?.getD (0, 0)).2 = (ys[k]?.getD (0, 0)).2))) = true) := by show _ = _; have := He.out; simp only [Prod.ext_iff] at this; simp only [Bool.or_eq_true, Bool.not_eq_true', decide_eq_false_iff_not]; omega
          clear he
          go_wp2
          refine region_draw (S := Later w) (af := ?_) (by kernel_rfl) (by kernel_rfl) (fun _ h => h.drew) hB ?_ ?_
          rotate_left
          · repeat (first
              | (refine SeqL.val (v := ?_) (by rfl) (fun W hW => ?_) ?_; rotate_left; (· (go_simp; try with_reducible rfl)); try simp only [Act.put, List.setIfInBounds_toArray, List.set_cons_zero, List.set_cons_succ])
              | (refine SeqL.skip (by rfl) ?_; try simp only [Act.put, List.setIfInBounds_toArray, List.set_cons_zero, List.set_cons_succ])
              )
            exact SeqL.nil _
          intro w1 hL1
          rw [Hv.out]
          go_wp2
          go_ret
          exact ⟨ret_bool (by simp [ne_of_getD (0, 0) k He.out]), hL1⟩
      · go_wp2
        go_ret
        exact ⟨ret_bool (by simp [eq_of_take Heq.out Hx.out Hy.out (by omega)]), hB⟩
  · have hne : ((n : Int) != n') = true := by rw [bne_iff_ne]; omega
    have Hne : Hid (¬ n = n') := hn
    clear hn
    go_enter Try.func77, Try.ntmps77
    go_wp2
    go_ret
    exact ⟨ret_bool (by have h1 := Hx.out; have h2 := Hy.out; have h3 := Hne.out; symm; rw [decide_eq_false_iff_not]; intro h; rw [h] at h1; omega), Later.refl _⟩

set_option maxHeartbeats 600000 in
theorem equalW_c (A : Option Addr) (n cap : Nat) (xs : List W4) (A' : Option Addr) (n' cap' : Nat) (ys : List W4) (w : World) (hm : n ≤ 9223372036854775807) (hR : Rd 4 encW w A n xs) (hR' : Rd 4 encW w A' n' ys) :
    Calls Try.prog 28 #[.slice A n cap, .slice A' n' cap'] w fun r w' => r = .returned (.bool (decide (xs = ys))) ∧ Later w w' := by
  have HR : Hid (Rd 4 encW w A n xs) := hR
  have HR' : Hid (Rd 4 encW w A' n' ys) := hR'
  have Hx : Hid (xs.length = n) := hR.1
  have Hy : Hid (ys.length = n') := hR'.1
  clear hR hR'
  by_cases hn : n = n'
  · subst hn
    go_enter Try.func28, Try.ntmps28
    go_wp2
    go_loopw [13] (fun i wr => ∃ k : Nat, k ≤ n ∧ i = .int .i64 k ∧ xs.take k = ys.take k ∧ Later w wr) (fun i _ => n - (intOf i).toNat)
    case atStart => exact ⟨0, Nat.zero_le _, rfl, by simp, Later.refl _⟩
    case round =>
      obtain ⟨k, hk, rfl, heq, hB⟩ := hrel
      have Heq : Hid (xs.take k = ys.take k) := heq
      clear heq
      by_cases hlt : k < n
      · obtain ⟨b, off, rfl, x0, x1, x2, x3⟩ := HR.out.atW k hlt
        obtain ⟨b', off', rfl, y0, y1, y2, y3⟩ := HR'.out.atW k hlt
        by_cases he : (xs[k]?.getD (0, 0, 0, 0)) = (ys[k]?.getD (0, 0, 0, 0))
        · have He : Hid ((xs[k]?.getD (0, 0, 0, 0)) = (ys[k]?.getD (0, 0, 0, 0))) := he
          have Hv : Hid ((!decide ((xs[k]?.getD (0, 0, 0, 0)).1 = (ys[k]?.getD (0, 0, 0, 0)).1) || (!decide ((xs[k]?.getD (0, 0, 0, 0)).2.1 = (ys[k]?.getD (0, 0, 0, 0)).2.1) || (!decide ((xs[k]?.getD (0, 0, 0, 0)).2.2.1 = (ys[k]?.getD (0, 0, 0, 0)).2.2.1) || (!decide ((xs[k]?.getD (0, 0, 0, 0)).2.2.2 = (ys[k]?.getD (0, 0, 0, 0)).2.2.2))))) = false) := by show _ = _; rw [He.out]; simp
          clear he
          go_wp2
          refine region_draw (S := Later w) (af := ?_) (by kernel_rfl) (by kernel_rfl) (fun _ h => h.drew) hB ?_ ?_
          rotate_left
          · repeat (first
              | (refine SeqL.val (v := ?_) (by rfl) (fun W hW => ?_) ?_; rotate_left; (· (go_simp; try with_reducible rfl)); try simp only [Act.put, List.setIfInBounds_toArray, List.set_cons_zero, List.set_cons_succ])
              | (refine SeqL.skip (by rfl) ?_; try simp only [Act.put, List.setIfInBounds_toArray, List.set_cons_zero, List.set_cons_succ])
              )
            exact SeqL.nil _
          intro w1 hL1
          rw [Hv.out]
          go_wp2
          go_roundw
          case rel => exact ⟨k + 1, by omega, by go_num, eq_take_snoc xs ys (0, 0, 0, 0) k n Heq.out He.out Hx.out Hy.out hlt, hL1⟩
          case measure => simp [intOf]; omega
        · have He : Hid (¬ (xs[k]?.getD (0, 0, 0, 0)) = (ys[k]?.getD (0, 0, 0, 0))) := he
          have Hv : Hid ((!decide ((xs[k]?.getD (0, 0, 0, 0)).1 = (ys[k]?.getD (0, 0, 0, 0)).1) || (!decide ((xs[k]?.getD (0, 0, 0, 0)).2.1 = (ys[k]?.getD (0, 0, 0, 0)).2.1) || (!decide ((xs[k]?.getD (0, 0, 0, 0)).2.2.1 = (ys[k]?.getD (0, 0, 0, 0)).2.2.1) || (!decide ((xs[k]?.getD (0, 0, 0, 0)).2.2.2 = (ys[k]?.getD (0, 0, 0, 0)).2.2.2))))) = true) := by show _ = _; have := He.out; simp only [Prod.ext_iff] at this; simp only [Bool.or_eq_true, Bool.not_eq_true', decide_eq_false_iff_not]; omega
          clear he
          go_wp2
          refine region_draw (S := Later w) (af := ?_) (by kernel_rfl) (by kernel_rfl) (fun _ h => h.drew) hB ?_ ?_
          rotate_left
          · repeat (first
              | (refine SeqL.val (v := ?_) (by rfl) (fun W hW => ?_) ?_; rotate_left; (· (go_simp; try with_reducible rfl)); try simp only [Act.put, List.setIfInBounds_toArray, List.set_cons_zero, List.set_cons_succ])
              | (refine SeqL.skip (by rfl) ?_; try simp only [Act.put, List.setIfInBounds_toArray, List.set_cons_zero, List.set_cons_succ])
              )
            exact SeqL.nil _
          intro w1 hL1
          rw [Hv.out]
          go_wp2
          go_ret
          exact ⟨ret_bool (by simp [ne_of_getD (0, 0, 0, 0) k He.out]), hL1⟩
      · go_wp2
        go_ret
        exact ⟨ret_bool (by simp [eq_of_take Heq.out Hx.out Hy.out (by omega)]), hB⟩
  · have hne : ((n : Int) != n') = true := by rw [bne_iff_ne]; omega
    have Hne : Hid (¬ n = n') := hn
    clear hn
    go_enter Try.func28, Try.ntmps28
    go_wp2
    go_ret
    exact ⟨ret_bool (by have h1 := Hx.out; have h2 := Hy.out; have h3 := Hne.out; symm; rw [decide_eq_false_iff_not]; intro h; rw [h] at h1; omega), Later.refl _⟩

set_option maxHeartbeats 600000 in
theorem equalI_c (A : Option Addr) (n cap : Nat) (xs : List Int) (A' : Option Addr) (n' cap' : Nat) (ys : List Int) (w : World) (hm : n ≤ 9223372036854775807) (hR : Rd 1 encI w A n xs) (hR' : Rd 1 encI w A' n' ys) :
    Calls Try.prog 27 #[.slice A n cap, .slice A' n' cap'] w fun r w' => r = .returned (.bool (decide (xs = ys))) ∧ Later w w' := by
  have HR : Hid (Rd 1 encI w A n xs) := hR
  have HR' : Hid (Rd 1 encI w A' n' ys) := hR'
  have Hx : Hid (xs.length = n) := hR.1
  have Hy : Hid (ys.length = n') := hR'.1
  clear hR hR'
  by_cases hn : n = n'
  · subst hn
    go_enter Try.func27, Try.ntmps27
    go_wp2
    go_loopw [13] (fun i wr => ∃ k : Nat, k ≤ n ∧ i = .int .i64 k ∧ xs.take k = ys.take k ∧ Later w wr) (fun i _ => n - (intOf i).toNat)
    case atStart => exact ⟨0, Nat.zero_le _, rfl, by simp, Later.refl _⟩
    case round =>
      obtain ⟨k, hk, rfl, heq, hB⟩ := hrel
      have Heq : Hid (xs.take k = ys.take k) := heq
      clear heq
      by_cases hlt : k < n
      · obtain ⟨b, off, rfl, x0⟩ := HR.out.atI k hlt
        obtain ⟨b', off', rfl, y0⟩ := HR'.out.atI k hlt
        by_cases he : (xs[k]?.getD 0) = (ys[k]?.getD 0)
        · have He : Hid ((xs[k]?.getD 0) = (ys[k]?.getD 0)) := he
          have Hv : Hid (((xs[k]?.getD 0) != (ys[k]?.getD 0)) = false) := by show _ = _; rw [He.out]; simp
          clear he
          go_wp2
          refine region_draw (S := Later w) (af := ?_) (by kernel_rfl) (by kernel_rfl) (fun _ h => h.drew) hB ?_ ?_
          rotate_left
          · repeat (first
              | (refine SeqL.val (v := ?_) (by rfl) (fun W hW => ?_) ?_; rotate_left; (· (go_simp; try with_reducible rfl)); try simp only [Act.put, List.setIfInBounds_toArray, List.set_cons_zero, List.set_cons_succ])
              | (refine SeqL.skip (by rfl) ?_; try simp only [Act.put, List.setIfInBounds_toArray, List.set_cons_zero, List.set_cons_succ])
              )
            exact SeqL.nil _
          intro w1 hL1
          rw [Hv.out]
          go_wp2
          go_roundw
          case rel => exact ⟨k + 1, by omega, by go_num, eq_take_snoc xs ys 0 k n Heq.out He.out Hx.out Hy.out hlt, hL1⟩
          case measure => simp [intOf]; omega
        · have He : Hid (¬ (xs[k]?.getD 0) = (ys[k]?.getD 0)) := he
          have Hv : Hid (((xs[k]?.getD 0) != (ys[k]?.getD 0)) = true) := by show _ = _; rw [bne_iff_ne]; exact He.out
          clear he
          go_wp2
          refine region_draw (S := Later w) (af := ?_) (by kernel_rfl) (by kernel_rfl) (fun _ h => h.drew) hB ?_ ?_
          rotate_left
          · repeat (first
              | (refine SeqL.val (v := ?_) (by rfl) (fun W hW => ?_) ?_; rotate_left; (· (go_simp; try with_reducible rfl)); try simp only [Act.put, List.setIfInBounds_toArray, List.set_cons_zero, List.set_cons_succ])
              | (refine SeqL.skip (by rfl) ?_; try simp only [Act.put, List.setIfInBounds_toArray, List.set_cons_zero, List.set_cons_succ])
              )
            exact SeqL.nil _
          intro w1 hL1
          rw [Hv.out]
          go_wp2
          go_ret
          exact ⟨ret_bool (by simp [ne_of_getD 0 k He.out]), hL1⟩
      · go_wp2
        go_ret
        exact ⟨ret_bool (by simp [eq_of_take Heq.out Hx.out Hy.out (by omega)]), hB⟩
  · have hne : ((n : Int) != n') = true := by rw [bne_iff_ne]; omega
    have Hne : Hid (¬ n = n') := hn
    clear hn
    go_enter Try.func27, Try.ntmps27
    go_wp2
    go_ret
    exact ⟨ret_bool (by have h1 := Hx.out; have h2 := Hy.out; have h3 := Hne.out; symm; rw [decide_eq_false_iff_not]; intro h; rw [h] at h1; omega), Later.refl _⟩

set_option maxHeartbeats 600000 in
theorem equalB_c (A : Option Addr) (n cap : Nat) (xs : List Bool) (A' : Option Addr) (n' cap' : Nat) (ys : List Bool) (w : World) (hm : n ≤ 9223372036854775807) (hR : Rd 1 encB w A n xs) (hR' : Rd 1 encB w A' n' ys) :
    Calls Try.prog 55 #[.slice A n cap, .slice A' n' cap'] w fun r w' => r = .returned (.bool (decide (xs = ys))) ∧ Later w w' := by
  have HR : Hid (Rd 1 encB w A n xs) := hR
  have HR' : Hid (Rd 1 encB w A' n' ys) := hR'
  have Hx : Hid (xs.length = n) := hR.1
  have Hy : Hid (ys.length = n') := hR'.1
  clear hR hR'
  by_cases hn : n = n'
  · subst hn
    go_enter Try.func55, Try.ntmps55
    go_wp2
    go_loopw [13] (fun i wr => ∃ k : Nat, k ≤ n ∧ i = .int .i64 k ∧ xs.take k = ys.take k ∧ Later w wr) (fun i _ => n - (intOf i).toNat)
    case atStart => exact ⟨0, Nat.zero_le _, rfl, by simp, Later.refl _⟩
    case round =>
      obtain ⟨k, hk, rfl, heq, hB⟩ := hrel
      have Heq : Hid (xs.take k = ys.take k) := heq
      clear heq
      by_cases hlt : k < n
      · obtain ⟨b, off, rfl, x0⟩ := HR.out.atB k hlt
        obtain ⟨b', off', rfl, y0⟩ := HR'.out.atB k hlt
        by_cases he : (xs[k]?.getD false) = (ys[k]?.getD false)
        · have He : Hid ((xs[k]?.getD false) = (ys[k]?.getD false)) := he
          have Hv : Hid ((!((xs[k]?.getD false) == (ys[k]?.getD false))) = false) := by show _ = _; rw [He.out]; simp
          clear he
          go_wp2
          refine region_draw (S := Later w) (af := ?_) (by kernel_rfl) (by kernel_rfl) (fun _ h => h.drew) hB ?_ ?_
          rotate_left
          · repeat (first
              | (refine SeqL.val (v := ?_) (by rfl) (fun W hW => ?_) ?_; rotate_left; (· (go_simp; try with_reducible rfl)); try simp only [Act.put, List.setIfInBounds_toArray, List.set_cons_zero, List.set_cons_succ])
              | (refine SeqL.skip (by rfl) ?_; try simp only [Act.put, List.setIfInBounds_toArray, List.set_cons_zero, List.set_cons_succ])
              )
            exact SeqL.nil _
          intro w1 hL1
          rw [Hv.out]
          go_wp2
          go_roundw
          case rel => exact ⟨k + 1, by omega, by go_num, eq_take_snoc xs ys false k n Heq.out He.out Hx.out Hy.out hlt, hL1⟩
          case measure => simp [intOf]; omega
        · have He : Hid (¬ (xs[k]?.getD false) = (ys[k]?.getD false)) := he
          have Hv : Hid ((!((xs[k]?.getD false) == (ys[k]?.getD false))) = true) := by show _ = _; have := He.out; simpa using this
          clear he
          go_wp2
          refine region_draw (S := Later w) (af := ?_) (by kernel_rfl) (by kernel_rfl) (fun _ h => h.drew) hB ?_ ?_
          rotate_left
          · repeat (first
              | (refine SeqL.val (v := ?_) (by rfl) (fun W hW => ?_) ?_; rotate_left; (· (go_simp; try with_reducible rfl)); try simp only [Act.put, List.setIfInBounds_toArray, List.set_cons_zero, List.set_cons_succ])
              | (refine SeqL.skip (by rfl) ?_; try simp only [Act.put, List.setIfInBounds_toArray, List.set_cons_zero, List.set_cons_succ])
              )
            exact SeqL.nil _
          intro w1 hL1
          rw [Hv.out]
          go_wp2
          go_ret
          exact ⟨ret_bool (by simp [ne_of_getD false k He.out]), hL1⟩
      · go_wp2
        go_ret
        exact ⟨ret_bool (by simp [eq_of_take Heq.out Hx.out Hy.out (by omega)]), hB⟩
  · have hne : ((n : Int) != n') = true := by rw [bne_iff_ne]; omega
    have Hne : Hid (¬ n = n') := hn
    clear hn
    go_enter Try.func55, Try.ntmps55
    go_wp2
    go_ret
    exact ⟨ret_bool (by have h1 := Hx.out; have h2 := Hy.out; have h3 := Hne.out; symm; rw [decide_eq_false_iff_not]; intro h; rw [h] at h1; omega), Later.refl _⟩
end Go.Proofs.Ytdheckfndldbmaa

namespace Go.Proofs.Ytdheckfndldbmaa
open Go.RowKit
attribute [local go_sem] merge_t merge_f merge_a merge_o

def ixI : Option Nat → Int
  | some k => k
  | none => -1
theorem ix_hit {α : Type} (p : α → Bool) (xs : List α) (d : α) (k : Nat) (hk : k < xs.length) (h0 : ∀ x ∈ xs.take k, p x = false) (h1 : p (xs[k]?.getD d) = true) : ixI (xs.findIdx? p) = k := by
  have : xs.findIdx? p = some k := by
    rw [List.findIdx?_eq_some_iff_getElem]
    rw [List.getElem?_eq_getElem hk, Option.getD_some] at h1
    refine ⟨hk, h1, fun j hj => ?_⟩
    have := h0 (xs[j]'(by omega)) (by rw [List.mem_take_iff_getElem]; exact ⟨j, by omega, rfl⟩)
    simp [this]
  rw [this]; rfl
theorem ix_none {α : Type} (p : α → Bool) (xs : List α) (h0 : ∀ x ∈ xs, p x = false) : ixI (xs.findIdx? p) = -1 := by
  have : xs.findIdx? p = none := by rw [List.findIdx?_eq_none_iff]; exact h0
  rw [this]; rfl
theorem ix_any {α : Type} (p : α → Bool) (xs : List α) : decide (0 ≤ ixI (xs.findIdx? p)) = xs.any p := by
  cases h : xs.findIdx? p with
  | none =>
    rw [List.findIdx?_eq_none_iff] at h
    have : xs.any p = false := List.any_eq_false.2 fun x hx => by simp [h x hx]
    rw [this]; rfl
  | some k =>
    obtain ⟨hk, h1, _⟩ := List.findIdx?_eq_some_iff_getElem.1 h
    have : xs.any p = true := List.any_eq_true.2 ⟨_, List.getElem_mem hk, h1⟩
    rw [this]; simp [ixI]
theorem any_dec {α : Type} [DecidableEq α] (e : α) (xs : List α) : xs.any (fun x => decide (e = x)) = decide (e ∈ xs) := by
  rw [Bool.eq_iff_iff]; simp
theorem take_snoc_all {α : Type} (p : α → Bool) (xs : List α) (d : α) (k : Nat) (hk : k < xs.length) (h0 : ∀ x ∈ xs.take k, p x = false) (h1 : p (xs[k]?.getD d) = false) : ∀ x ∈ xs.take (k + 1), p x = false := by
  intro x hx
  rw [take_snoc_mem xs x d k hk] at hx
  rcases hx with h | rfl
  · exact h0 x h
  · exact h1

set_option maxHeartbeats 600000 in
theorem indexE_c (A : Option Addr) (n cap : Nat) (xs : List E2) (s g : Int) (w : World) (hm : n ≤ 9223372036854775807) (hR : Rd 2 encE w A n xs) :
    Calls Try.prog 40 #[.slice A n cap, .agg #[.int .i64 s, .int .u64 g]] w fun r w' => r = .returned (.int .i64 (ixI (xs.findIdx? fun x => decide ((s, g) = x)))) ∧ Later w w' := by
  have Hx : Hid (xs.length = n) := hR.1
  obtain ⟨wb, hwb, hL, hz, f1, _⟩ := box1 w #[.int .i64 s, .int .u64 g] 43
  have b0 := f1 0 (.int .i64 s) rfl
  have b1 := f1 1 (.int .u64 g) rfl
  clear f1
  have HR : Hid (Rd 2 encE wb A n xs) := hR.later hL
  clear hR
  go_enter Try.func40, Try.ntmps40
  go_wp2
  rw [hwb.out]
  go_loopw [8] (fun i wr => ∃ k : Nat, k ≤ n ∧ i = .int .i64 k ∧ (∀ x ∈ xs.take k, (decide ((s, g) = x)) = false) ∧ Later wb wr) (fun i _ => n - (intOf i).toNat)
  case atStart => exact ⟨0, Nat.zero_le _, rfl, by simp, Later.refl _⟩
  case round =>
    obtain ⟨k, hk, rfl, hne, hB⟩ := hrel
    have Hne : Hid (∀ x ∈ xs.take k, (decide ((s, g) = x)) = false) := hne
    clear hne
    by_cases hlt : k < n
    · obtain ⟨b, off, rfl, x0, x1⟩ := HR.out.atE k hlt
      by_cases he : (s, g) = (xs[k]?.getD (0, 0))
      · have He : Hid ((s, g) = (xs[k]?.getD (0, 0))) := he
        have Hv : Hid ((decide (s = (xs[k]?.getD (0, 0)).1) && decide (g = (xs[k]?.getD (0, 0)).2)) = true) := by show _ = _; rw [← He.out]; simp
        clear he
        go_wp2
        refine region_draw (S := Later wb) (af := ?_) (by kernel_rfl) (by kernel_rfl) (fun _ h => h.drew) hB ?_ ?_
        rotate_left
        · repeat (first
            | (refine SeqL.val (v := ?_) (by rfl) (fun W hW => ?_) ?_; rotate_left; (· (go_simp; try with_reducible rfl)); try simp only [Act.put, List.setIfInBounds_toArray, List.set_cons_zero, List.set_cons_succ])
            | (refine SeqL.skip (by rfl) ?_; try simp only [Act.put, List.setIfInBounds_toArray, List.set_cons_zero, List.set_cons_succ])
            )
          exact SeqL.nil _
        intro w1 hL1
        rw [Hv.out]
        go_wp2
        go_ret
        exact ⟨ret_int (ix_hit (fun x => decide ((s, g) = x)) xs (0, 0) k (by rw [Hx.out]; exact hlt) Hne.out (by simpa using He.out)).symm, hL.trans hL1⟩
      · have He : Hid (¬ (s, g) = (xs[k]?.getD (0, 0))) := he
        have Hv : Hid ((decide (s = (xs[k]?.getD (0, 0)).1) && decide (g = (xs[k]?.getD (0, 0)).2)) = false) := by
          show _ = _
          have := He.out; simp only [Prod.ext_iff] at this; simp only [Bool.and_eq_false_iff, decide_eq_false_iff_not]; omega
        clear he
        go_wp2
        refine region_draw (S := Later wb) (af := ?_) (by kernel_rfl) (by kernel_rfl) (fun _ h => h.drew) hB ?_ ?_
        rotate_left
        · repeat (first
            | (refine SeqL.val (v := ?_) (by rfl) (fun W hW => ?_) ?_; rotate_left; (· (go_simp; try with_reducible rfl)); try simp only [Act.put, List.setIfInBounds_toArray, List.set_cons_zero, List.set_cons_succ])
            | (refine SeqL.skip (by rfl) ?_; try simp only [Act.put, List.setIfInBounds_toArray, List.set_cons_zero, List.set_cons_succ])
            )
          exact SeqL.nil _
        intro w1 hL1
        rw [Hv.out]
        go_wp2
        go_roundw
        case rel => exact ⟨k + 1, by omega, by go_num, take_snoc_all (fun x => decide ((s, g) = x)) xs (0, 0) k (by rw [Hx.out]; exact hlt) Hne.out (by simpa using He.out), hL1⟩
        case measure => simp [intOf]; omega
    · go_wp2
      go_ret
      exact ⟨ret_int (ix_none (fun x => decide ((s, g) = x)) xs (by have e : xs.take k = xs := List.take_of_length_le (by rw [Hx.out]; omega); have := Hne.out; rwa [e] at this)).symm, hL.trans hB⟩

set_option maxHeartbeats 400000 in
theorem containsE_c (A : Option Addr) (n cap : Nat) (xs : List E2) (s g : Int) (w : World) (hm : n ≤ 9223372036854775807) (hR : Rd 2 encE w A n xs) :
    Calls Try.prog 15 #[.slice A n cap, .agg #[.int .i64 s, .int .u64 g]] w fun r w' => r = .returned (.bool (decide ((s, g) ∈ xs))) ∧ Later w w' := by
  have HR : Hid (Rd 2 encE w A n xs) := hR
  clear hR
  go_enter Try.func15, Try.ntmps15
  go_wp2_with (go_at_call 40; refine (indexE_c A n cap xs _ _ _ hm (HR.out.later ((Later.refl w).alloc _))).mono ?_; rintro e w1 ⟨rfl, hL1⟩)
  go_ret
  exact ⟨ret_bool (by rw [ix_any, Bool.eq_iff_iff]; simp), ((Later.refl w).alloc _).trans hL1⟩

set_option maxHeartbeats 600000 in
theorem indexI_c (A : Option Addr) (n cap : Nat) (xs : List Int) (e : Int) (w : World) (hm : n ≤ 9223372036854775807) (hR : Rd 1 encI w A n xs) :
    Calls Try.prog 42 #[.slice A n cap, .int .i64 e] w fun r w' => r = .returned (.int .i64 (ixI (xs.findIdx? fun x => decide (e = x)))) ∧ Later w w' := by
  have Hx : Hid (xs.length = n) := hR.1
  obtain ⟨wb, hwb, hL⟩ : ∃ wb, Hid (w = wb) ∧ Later w wb := ⟨w, rfl, Later.refl w⟩
  have HR : Hid (Rd 1 encI wb A n xs) := hR.later hL
  clear hR
  go_enter Try.func42, Try.ntmps42
  go_wp2
  rw [hwb.out]
  go_loopw [8] (fun i wr => ∃ k : Nat, k ≤ n ∧ i = .int .i64 k ∧ (∀ x ∈ xs.take k, (decide (e = x)) = false) ∧ Later wb wr) (fun i _ => n - (intOf i).toNat)
  case atStart => exact ⟨0, Nat.zero_le _, rfl, by simp, Later.refl _⟩
  case round =>
    obtain ⟨k, hk, rfl, hne, hB⟩ := hrel
    have Hne : Hid (∀ x ∈ xs.take k, (decide (e = x)) = false) := hne
    clear hne
    by_cases hlt : k < n
    · obtain ⟨b, off, rfl, x0⟩ := HR.out.atI k hlt
      by_cases he : e = (xs[k]?.getD 0)
      · have He : Hid (e = (xs[k]?.getD 0)) := he
        have Hv : Hid ((e == (xs[k]?.getD 0)) = true) := by show _ = _; rw [He.out]; simp
        clear he
        have hv := Hv.out
        unfold Hid at hv
        have hL1 := hB
        go_wp2
        go_ret
        exact ⟨ret_int (ix_hit (fun x => decide (e = x)) xs 0 k (by rw [Hx.out]; exact hlt) Hne.out (by simpa using He.out)).symm, hL.trans hL1⟩
      · have He : Hid (¬ e = (xs[k]?.getD 0)) := he
        have Hv : Hid ((e == (xs[k]?.getD 0)) = false) := by
          show _ = _
          have := He.out; simpa using this
        clear he
        have hv := Hv.out
        unfold Hid at hv
        have hL1 := hB
        go_wp2
        go_roundw
        case rel => exact ⟨k + 1, by omega, by go_num, take_snoc_all (fun x => decide (e = x)) xs 0 k (by rw [Hx.out]; exact hlt) Hne.out (by simpa using He.out), hL1⟩
        case measure => simp [intOf]; omega
    · go_wp2
      go_ret
      exact ⟨ret_int (ix_none (fun x => decide (e = x)) xs (by have e : xs.take k = xs := List.take_of_length_le (by rw [Hx.out]; omega); have := Hne.out; rwa [e] at this)).symm, hL.trans hB⟩

set_option maxHeartbeats 400000 in
theorem containsI_c (A : Option Addr) (n cap : Nat) (xs : List Int) (e : Int) (w : World) (hm : n ≤ 9223372036854775807) (hR : Rd 1 encI w A n xs) :
    Calls Try.prog 18 #[.slice A n cap, .int .i64 e] w fun r w' => r = .returned (.bool (decide (e ∈ xs))) ∧ Later w w' := by
  have HR : Hid (Rd 1 encI w A n xs) := hR
  clear hR
  go_enter Try.func18, Try.ntmps18
  go_wp2_with (go_at_call 42; refine (indexI_c A n cap xs _ _ hm HR.out).mono ?_; rintro e w1 ⟨rfl, hL1⟩)
  go_ret
  exact ⟨ret_bool (by rw [ix_any, Bool.eq_iff_iff]; simp), hL1⟩

set_option maxHeartbeats 600000 in
theorem indexfS_c (A : Option Addr) (n cap : Nat) (xs : List E2) (p : E2 → Bool) (fid : FuncId) (caps : Array Value) (w : World) (hm : n ≤ 9223372036854775807) (hR : Rd 2 encE w A n xs) (hcf : ∀ (args : Array Value) (W : World), (callFunc fid args).run Try.prog W = .ok (.enter fid args) W) (hf : ∀ x ∈ xs, ∀ W, Later w W → Calls Try.prog fid (#[.agg #[.int .i64 x.1, .int .u64 x.2]] ++ caps) W fun e W' => e = .returned (.bool (p x)) ∧ Later W W') :
    Calls Try.prog 86 #[.slice A n cap, .func (.func fid) #[] caps] w fun r w' => r = .returned (.int .i64 (ixI (xs.findIdx? p))) ∧ Later w w' := by
  have Hx : Hid (xs.length = n) := hR.1
  have HR : Hid (Rd 2 encE w A n xs) := hR
  have HF : Hid (∀ x ∈ xs, ∀ W, Later w W → Calls Try.prog fid (#[.agg #[.int .i64 x.1, .int .u64 x.2]] ++ caps) W fun e W' => e = .returned (.bool (p x)) ∧ Later W W') := hf
  clear hR hf
  go_enter Try.func86, Try.ntmps86
  go_wp2
  go_loopw [8] (fun i wr => ∃ k : Nat, k ≤ n ∧ i = .int .i64 k ∧ (∀ x ∈ xs.take k, p x = false) ∧ Later w wr) (fun i _ => n - (intOf i).toNat)
  case atStart => exact ⟨0, Nat.zero_le _, rfl, by simp, Later.refl _⟩
  case round =>
    obtain ⟨k, hk, rfl, hne, hB⟩ := hrel
    have Hne : Hid (∀ x ∈ xs.take k, p x = false) := hne
    clear hne
    by_cases hlt : k < n
    · obtain ⟨b, off, rfl, x0, x1⟩ := HR.out.atE k hlt
      have hc := HF.out (xs[k]?.getD (0, 0)) (getD_mem (by rw [Hx.out]; exact hlt)) wr hB
      have Hc : Hid (Calls Try.prog fid (#[.agg #[.int .i64 (xs[k]?.getD (0, 0)).1, .int .u64 (xs[k]?.getD (0, 0)).2]] ++ caps) wr fun e W' => e = .returned (.bool (p (xs[k]?.getD (0, 0)))) ∧ Later wr W') := hc
      clear hc
      cases hp : p (xs[k]?.getD (0, 0)) with
      | true =>
        have Hp : Hid (p (xs[k]?.getD (0, 0)) = true) := hp
        clear hp
        go_wp2_with fail
        refine Hc.out.mono ?_
        rintro e w1 ⟨rfl, hL1⟩
        rw [Hp.out]
        go_wp2
        go_ret
        exact ⟨ret_int (ix_hit p xs (0, 0) k (by rw [Hx.out]; exact hlt) Hne.out Hp.out).symm, hB.trans hL1⟩
      | false =>
        have Hp : Hid (p (xs[k]?.getD (0, 0)) = false) := hp
        clear hp
        go_wp2_with fail
        refine Hc.out.mono ?_
        rintro e w1 ⟨rfl, hL1⟩
        rw [Hp.out]
        go_wp2
        go_roundw
        case rel => exact ⟨k + 1, by omega, by go_num, take_snoc_all p xs (0, 0) k (by rw [Hx.out]; exact hlt) Hne.out Hp.out, hB.trans hL1⟩
        case measure => simp [intOf]; omega
    · go_wp2
      go_ret
      exact ⟨ret_int (ix_none p xs (by have e : xs.take k = xs := List.take_of_length_le (by rw [Hx.out]; omega); have := Hne.out; rwa [e] at this)).symm, hB⟩

set_option maxHeartbeats 400000 in
theorem containsfS_c (A : Option Addr) (n cap : Nat) (xs : List E2) (p : E2 → Bool) (fid : FuncId) (caps : Array Value) (w : World) (hm : n ≤ 9223372036854775807) (hR : Rd 2 encE w A n xs) (hcf : ∀ (args : Array Value) (W : World), (callFunc fid args).run Try.prog W = .ok (.enter fid args) W) (hf : ∀ x ∈ xs, ∀ W, Later w W → Calls Try.prog fid (#[.agg #[.int .i64 x.1, .int .u64 x.2]] ++ caps) W fun e W' => e = .returned (.bool (p x)) ∧ Later W W') :
    Calls Try.prog 79 #[.slice A n cap, .func (.func fid) #[] caps] w fun r w' => r = .returned (.bool (xs.any p)) ∧ Later w w' := by
  have Hc : Hid (Calls Try.prog 86 #[.slice A n cap, .func (.func fid) #[] caps] w fun r w' => r = .returned (.int .i64 (ixI (xs.findIdx? p))) ∧ Later w w') := indexfS_c A n cap xs p fid caps w hm hR hcf hf
  clear hf hcf hR
  go_enter Try.func79, Try.ntmps79
  go_wp2_with (go_at_call 86; refine Hc.out.mono ?_; rintro e w1 ⟨rfl, hL1⟩)
  go_ret
  exact ⟨ret_bool (ix_any p xs), hL1⟩

set_option maxHeartbeats 600000 in
theorem indexfW_c (A : Option Addr) (n cap : Nat) (xs : List W4) (p : W4 → Bool) (fid : FuncId) (caps : Array Value) (w : World) (hm : n ≤ 9223372036854775807) (hR : Rd 4 encW w A n xs) (hcf : ∀ (args : Array Value) (W : World), (callFunc fid args).run Try.prog W = .ok (.enter fid args) W) (hf : ∀ x ∈ xs, ∀ W, Later w W → Calls Try.prog fid (#[.agg #[.int .i64 x.1, .int .i64 x.2.1, .int .i64 x.2.2.1, .int .u64 x.2.2.2]] ++ caps) W fun e W' => e = .returned (.bool (p x)) ∧ Later W W') :
    Calls Try.prog 76 #[.slice A n cap, .func (.func fid) #[] caps] w fun r w' => r = .returned (.int .i64 (ixI (xs.findIdx? p))) ∧ Later w w' := by
  have Hx : Hid (xs.length = n) := hR.1
  have HR : Hid (Rd 4 encW w A n xs) := hR
  have HF : Hid (∀ x ∈ xs, ∀ W, Later w W → Calls Try.prog fid (#[.agg #[.int .i64 x.1, .int .i64 x.2.1, .int .i64 x.2.2.1, .int .u64 x.2.2.2]] ++ caps) W fun e W' => e = .returned (.bool (p x)) ∧ Later W W') := hf
  clear hR hf
  go_enter Try.func76, Try.ntmps76
  go_wp2
  go_loopw [8] (fun i wr => ∃ k : Nat, k ≤ n ∧ i = .int .i64 k ∧ (∀ x ∈ xs.take k, p x = false) ∧ Later w wr) (fun i _ => n - (intOf i).toNat)
  case atStart => exact ⟨0, Nat.zero_le _, rfl, by simp, Later.refl _⟩
  case round =>
    obtain ⟨k, hk, rfl, hne, hB⟩ := hrel
    have Hne : Hid (∀ x ∈ xs.take k, p x = false) := hne
    clear hne
    by_cases hlt : k < n
    · obtain ⟨b, off, rfl, x0, x1, x2, x3⟩ := HR.out.atW k hlt
      have hc := HF.out (xs[k]?.getD (0, 0, 0, 0)) (getD_mem (by rw [Hx.out]; exact hlt)) wr hB
      have Hc : Hid (Calls Try.prog fid (#[.agg #[.int .i64 (xs[k]?.getD (0, 0, 0, 0)).1, .int .i64 (xs[k]?.getD (0, 0, 0, 0)).2.1, .int .i64 (xs[k]?.getD (0, 0, 0, 0)).2.2.1, .int .u64 (xs[k]?.getD (0, 0, 0, 0)).2.2.2]] ++ caps) wr fun e W' => e = .returned (.bool (p (xs[k]?.getD (0, 0, 0, 0)))) ∧ Later wr W') := hc
      clear hc
      cases hp : p (xs[k]?.getD (0, 0, 0, 0)) with
      | true =>
        have Hp : Hid (p (xs[k]?.getD (0, 0, 0, 0)) = true) := hp
        clear hp
        go_wp2_with fail
        refine Hc.out.mono ?_
        rintro e w1 ⟨rfl, hL1⟩
        rw [Hp.out]
        go_wp2
        go_ret
        exact ⟨ret_int (ix_hit p xs (0, 0, 0, 0) k (by rw [Hx.out]; exact hlt) Hne.out Hp.out).symm, hB.trans hL1⟩
      | false =>
        have Hp : Hid (p (xs[k]?.getD (0, 0, 0, 0)) = false) := hp
        clear hp
        go_wp2_with fail
        refine Hc.out.mono ?_
        rintro e w1 ⟨rfl, hL1⟩
        rw [Hp.out]
        go_wp2
        go_roundw
        case rel => exact ⟨k + 1, by omega, by go_num, take_snoc_all p xs (0, 0, 0, 0) k (by rw [Hx.out]; exact hlt) Hne.out Hp.out, hB.trans hL1⟩
        case measure => simp [intOf]; omega
    · go_wp2
      go_ret
      exact ⟨ret_int (ix_none p xs (by have e : xs.take k = xs := List.take_of_length_le (by rw [Hx.out]; omega); have := Hne.out; rwa [e] at this)).symm, hB⟩

set_option maxHeartbeats 400000 in
theorem containsfW_c (A : Option Addr) (n cap : Nat) (xs : List W4) (p : W4 → Bool) (fid : FuncId) (caps : Array Value) (w : World) (hm : n ≤ 9223372036854775807) (hR : Rd 4 encW w A n xs) (hcf : ∀ (args : Array Value) (W : World), (callFunc fid args).run Try.prog W = .ok (.enter fid args) W) (hf : ∀ x ∈ xs, ∀ W, Later w W → Calls Try.prog fid (#[.agg #[.int .i64 x.1, .int .i64 x.2.1, .int .i64 x.2.2.1, .int .u64 x.2.2.2]] ++ caps) W fun e W' => e = .returned (.bool (p x)) ∧ Later W W') :
    Calls Try.prog 45 #[.slice A n cap, .func (.func fid) #[] caps] w fun r w' => r = .returned (.bool (xs.any p)) ∧ Later w w' := by
  have Hc : Hid (Calls Try.prog 76 #[.slice A n cap, .func (.func fid) #[] caps] w fun r w' => r = .returned (.int .i64 (ixI (xs.findIdx? p))) ∧ Later w w') := indexfW_c A n cap xs p fid caps w hm hR hcf hf
  clear hf hcf hR
  go_enter Try.func45, Try.ntmps45
  go_wp2_with (go_at_call 76; refine Hc.out.mono ?_; rintro e w1 ⟨rfl, hL1⟩)
  go_ret
  exact ⟨ret_bool (ix_any p xs), hL1⟩
end Go.Proofs.Ytdheckfndldbmaa

namespace Go.Proofs.Ytdheckfndldbmaa
open Go.RowKit

theorem add_at (b off j : Nat) : (⟨b, off, none⟩ : Addr).add j = ⟨b, off + j, none⟩ := by unfold Addr.add; split <;> simp_all
/-- an element's cells -/
structure Enc {α : Type} (sz : Nat) (enc : α → List Value) : Prop where
  len : ∀ x, (enc x).length = sz
  one : ∀ x, ∀ u ∈ enc x, u.oneCell' = true
  pos : 0 < sz
theorem enc_E : Enc 2 encE := ⟨fun _ => rfl, fun x u hu => by simp only [encE, List.mem_cons, List.not_mem_nil, or_false] at hu; rcases hu with rfl | rfl <;> rfl, by omega⟩
theorem enc_W : Enc 4 encW := ⟨fun _ => rfl, fun x u hu => by simp only [encW, List.mem_cons, List.not_mem_nil, or_false] at hu; rcases hu with rfl | rfl | rfl | rfl <;> rfl, by omega⟩
theorem enc_I : Enc 1 encI := ⟨fun _ => rfl, fun x u hu => by simp only [encI, List.mem_cons, List.not_mem_nil, or_false] at hu; subst hu; rfl, by omega⟩
theorem enc_B : Enc 1 encB := ⟨fun _ => rfl, fun x u hu => by simp only [encB, List.mem_cons, List.not_mem_nil, or_false] at hu; subst hu; rfl, by omega⟩

/-- laid flat -/
def flat {α : Type} (enc : α → List Value) (xs : List α) : List Value := xs.flatMap enc
theorem flat_len {α : Type} {sz : Nat} {enc : α → List Value} (he : Enc sz enc) (xs : List α) : (flat enc xs).length = xs.length * sz := by
  induction xs with
  | nil => simp [flat]
  | cons x xs ih =>
    have : flat enc (x :: xs) = enc x ++ flat enc xs := rfl
    rw [this, List.length_append, ih, he.len, List.length_cons, Nat.add_mul]; omega
theorem flat_append {α : Type} (enc : α → List Value) (xs ys : List α) : flat enc (xs ++ ys) = flat enc xs ++ flat enc ys := by simp [flat]
theorem flat_one {α : Type} (enc : α → List Value) (x : α) : flat enc [x] = enc x := by simp [flat]
theorem flat_nil {α : Type} (enc : α → List Value) : flat enc ([] : List α) = [] := rfl
theorem flat_at {α : Type} {sz : Nat} {enc : α → List Value} (he : Enc sz enc) : ∀ (xs : List α) (k j : Nat), j < sz → (flat enc xs)[k * sz + j]? = (xs[k]?).bind fun x => (enc x)[j]?
  | [], k, j, hj => by simp [flat]
  | x :: xs, 0, j, hj => by
    have : flat enc (x :: xs) = enc x ++ flat enc xs := rfl
    rw [this, Nat.zero_mul, Nat.zero_add, List.getElem?_append_left (by rw [he.len]; exact hj)]; rfl
  | x :: xs, k + 1, j, hj => by
    have : flat enc (x :: xs) = enc x ++ flat enc xs := rfl
    rw [this, List.getElem?_append_right (by rw [he.len, Nat.add_mul]; omega), he.len, show (k + 1) * sz + j - sz = k * sz + j by rw [Nat.add_mul]; omega, flat_at he xs k j hj]; rfl
theorem flat_one_cell {α : Type} {sz : Nat} {enc : α → List Value} (he : Enc sz enc) (xs : List α) : ∀ u ∈ flat enc xs, u.oneCell' = true := by
  intro u hu
  obtain ⟨x, _, h⟩ := List.mem_flatMap.1 hu
  exact he.one x u h
/-- the cells of a slice that is read, laid flat -/
theorem Rd.flat {α : Type} {sz : Nat} {enc : α → List Value} {w : World} {A : Option Addr} {n : Nat} {xs : List α} (he : Enc sz enc) (h : Rd sz enc w A n xs) (hn : 0 < n) :
    ∃ b off, A = some ⟨b, off, none⟩ ∧ ∀ j u, (flat enc xs)[j]? = some u → w.cell? ((⟨b, off, none⟩ : Addr).add j) = some u := by
  obtain ⟨b, off, e, hc⟩ := h.2 hn
  refine ⟨b, off, e, fun j u hu => ?_⟩
  have hsz := he.pos
  have hd : j = j / sz * sz + j % sz := by rw [Nat.mul_comm]; exact (Nat.div_add_mod j sz).symm
  rw [hd, flat_at he xs (j / sz) (j % sz) (Nat.mod_lt _ hsz)] at hu
  obtain ⟨x, hx, hu⟩ := Option.bind_eq_some_iff.1 hu
  have := hc _ x hx _ u hu
  rw [add_at]
  rw [show off + j / sz * sz + j % sz = off + j by omega] at this
  exact this
/-- what is owned is read -/
theorem rd_of_own {α : Type} {sz : Nat} {enc : α → List Value} {w : World} {base : Nat} {e : TypeId} {v : Value} {n : Nat} {xs : List α} (he : Enc sz enc) (hl : xs.length = n) (h : w.ownsRow base e sz v n (flat enc xs)) :
    ∃ A c, v = .slice A n c ∧ n ≤ c ∧ c ≤ maxLen ∧ Rd sz enc w A n xs := by
  rcases h.2 with ⟨rfl, rfl⟩ | ⟨g, cap, cur, rfl, hb, hh, h1, h2, h3, h4⟩
  · obtain rfl := List.eq_nil_of_length_eq_zero hl
    exact ⟨none, 0, rfl, Nat.le_refl _, Nat.zero_le _, Rd.nil _ _ _⟩
  · refine ⟨_, cap, rfl, h1, h2, hl, fun hn => ⟨g, 0, rfl, fun k x hx j u hu => ?_⟩⟩
    have hj : j < sz := by
      have := (List.getElem?_eq_some_iff.1 hu).1
      rw [he.len] at this; exact this
    have hf : (Go.Proofs.Ytdheckfndldbmaa.flat enc xs)[k * sz + j]? = some u := by rw [flat_at he xs k j hj, hx]; exact hu
    have := h.cells (g := g) rfl (k * sz + j) u hf
    rw [add_at] at this
    rw [Nat.zero_add] at this ⊢
    exact this

section
variable {P : Program} {w : World}
theorem run_copy_rd {α : Type} {sz : Nat} {enc : α → List Value} (he : Enc sz enc) (dT sT ty elem : TypeId) (g n c' : Nat) (A : Option Addr) (cur : Array Value) (xs : List α)
    (hu : P.underlying dT = some (.slice elem)) (hs : (P.info? elem).map (·.size) = some sz) (hg : w.heap[g]? = some (.cells cur elem (0, 0))) (hcur : cur.size = n * sz) (hR : Rd sz enc w A n xs) :
    (Builtin.copy_ #[dT, sT] ty #[.slice (some ⟨g, 0, none⟩) n n, .slice A n c']).run P w = .ok (goInt n) (w.setRow g (flat enc xs).toArray) := by
  cases hq : P.info? elem with
  | none => simp [hq] at hs
  | some i =>
    have hi : i.size = sz := by simpa [hq] using hs
    have hlen : (flat enc xs).length = n * sz := by rw [flat_len he, hR.1]
    have hst := run_storeCells_at P g 0 elem (flat enc xs) 0 cur w hg (by rw [hlen]; omega) (flat_one_cell he xs)
    simp only [Nat.zero_add, List.take_zero, List.nil_append] at hst
    rw [show List.drop (flat enc xs).length cur.toList = [] from List.drop_eq_nil_of_le (by simp [hcur, hlen]), List.append_nil] at hst
    rcases Nat.eq_zero_or_pos n with h0 | h0
    · subst h0
      obtain rfl := List.eq_nil_of_length_eq_zero hR.1
      have hl0 : ∀ (x : Addr), (loadCells x 0).run P w = .ok #[] w := fun x => by simpa using run_loadCells_list (P := P) w x [] (by simp)
      have hst' : (storeCells ⟨g, 0, none⟩ [] 0).run P w = .ok () (w.setRow g (flat enc []).toArray) := hst
      cases A <;> simp [Builtin.copy_, run_underlying hu, Builtin.lenOf, Builtin.firstCells, sizeOf, typeInfo, hq, hst', hl0]
    · obtain ⟨b, off, rfl, hc⟩ := hR.flat he h0
      have hl := run_loadCells_list (P := P) w ⟨b, off, none⟩ (flat enc xs) hc
      rw [hlen] at hl
      simp [Builtin.copy_, run_underlying hu, Builtin.lenOf, Builtin.firstCells, sizeOf, typeInfo, hq, hi, hl, hst]
/-- copy(out, l), out just made as long as l. -/
theorem wpList_copy_rd {α : Type} {sz : Nat} {enc : α → List Value} {ops : Array Oper} {rest : List Oper} {o : Oper} {a : Act} {Q : Exit → Act → World → Prop} (hgd : o.guard = none) (d s : Operand) (dT sT : TypeId)
    (ho : o.op = .call { callee := .builtin .copy, args := #[d, s], argTypes := #[dT, sT] }) (he : Enc sz enc) (elem : TypeId) (hu : P.underlying dT = some (.slice elem)) (hs : (P.info? elem).map (·.size) = some sz)
    (g n c' : Nat) (A : Option Addr) (hd : a.eval d = .slice (some ⟨g, 0, none⟩) n n) (hsr : a.eval s = .slice A n c') (cur : Array Value) (hg : w.heap[g]? = some (.cells cur elem (0, 0))) (hcur : cur.size = n * sz)
    (xs : List α) (hR : Rd sz enc w A n xs) (h : wpList P ops Q rest (a.put o.dst (goInt n)) (w.setRow g (flat enc xs).toArray)) : wpList P ops Q (o :: rest) a w := by
  refine wpList_plain hgd fun K hK => ?_
  have hrun := run_copy_rd (P := P) he dT sT o.type elem g n c' A cur xs hu hs hg hcur hR
  unfold Oper.wp
  simp [execOp, ho, resolve, invoke, builtin, hd, hsr, hrun, Result.andThen]
  exact hK _ _ h
end
theorem later_setRow {w W : World} (h : Later w W) {g : Nat} (hg : w.heap.size ≤ g) (cs : Array Value) : Later w (W.setRow g cs) :=
  Below.trans h ⟨rfl, rfl, rfl, by simp [World.setRow], fun k hk => setRow_other W g k cs (by omega)⟩
theorem later_grown {w W W' : World} (h : Later w W) {row : Option Nat} (hg : W.grownBy W' row) (hr : ∀ k, row = some k → w.heap.size ≤ k) : Later w W' := Below.grown h hg h.sz hr
theorem Later.grownBy {w W : World} (h : Later w W) (row : Option Nat) : w.grownBy W row := ⟨h.os, h.tape, h.output, h.size, fun i hi _ => h.block i hi⟩
theorem Later.own {w W : World} (hL : Later w W) {b : Nat} {e : TypeId} {sz : Nat} {v : Value} {n : Nat} {xs : List Value} (h : w.ownsRow b e sz v n xs) : W.ownsRow b e sz v n xs :=
  h.kept (hL.grownBy none) (by cases v.ownBlock <;> simp)
theorem own_base {w : World} {b b' : Nat} {e : TypeId} {sz : Nat} {v : Value} {n : Nat} {xs : List Value} (h : w.ownsRow b e sz v n xs) (hb : b' ≤ b) : w.ownsRow b' e sz v n xs := by
  refine ⟨h.1, ?_⟩
  rcases h.2 with hn | ⟨g, cap, cur, r0, r1, r⟩
  · exact .inl hn
  · exact .inr ⟨g, cap, cur, r0, Nat.le_trans hb r1, r⟩
theorem later_below {B : Nat} {w W w1 : World} (h : Later w W) (k : Below B W w1) (hB : w.heap.size ≤ B) : Later w w1 := Below.trans h (k.mono hB)
theorem own_block_le {w : World} {b : Nat} {e : TypeId} {sz : Nat} {v : Value} {n : Nat} {xs : List Value} (h : w.ownsRow b e sz v n xs) : ∀ k, v.ownBlock = some k → b ≤ k := fun k hk => (h.lt k hk).1
section
variable {P : Program}
/-- append(v, y), y in its box. -/
theorem append_elem {α : Type} {sz : Nat} {enc : α → List Value} {W : World} {ops : Array Oper} {rest : List Oper} {o : Oper} {a : Act} {Q : Exit → Act → World → Prop} (hgd : o.guard = none) (s x : Operand) (t e : TypeId) (z : Value) (bytes base : Nat)
    (ho : o.op = .call { callee := .builtin .append, args := #[s, x], argTypes := #[t, t] }) (he : Enc sz enc) (ht : P.underlying t = some (.slice e))
    (hinfo : (P.info? e).map (fun i => (i.zero, i.size, i.bytes)) = some (some z, sz, bytes)) (hzs : z.cells.size = sz) (v : Value) (xs : List α) (y : α) (cs : Array Value) (hcs : cs.toList = enc y)
    (hs : a.eval s = v) (hx : a.eval x = .slice (some ⟨W.heap.size, 0, none⟩) 1 1) (HO : W.ownsRow base e sz v xs.length (flat enc xs)) (hbase : base ≤ W.heap.size)
    (hlen : xs.length ≤ 2000000) (hby : bytes ≤ 4096)
    (h : ∀ v1 w1, w1.ownsRow base e sz v1 (xs ++ [y]).length (flat enc (xs ++ [y])) → Below base W w1 → W.grownBy w1 v.ownBlock → (v1.ownBlock = v.ownBlock ∨ ∃ b, v1.ownBlock = some b ∧ W.heap.size ≤ b) → wpList P ops Q rest (a.put o.dst v1) w1) :
    wpList P ops Q (o :: rest) a (W.alloc (.cells cs e)) := by
  obtain ⟨i0, hi, hz0, hz1, hz2⟩ := info_parts hinfo
  have hl : (xs.length + 1) * bytes ≤ 140737488355328 := by
    refine Nat.le_trans (Nat.mul_le_mul (show xs.length + 1 ≤ 2000001 by omega) hby) (by omega)
  have hcell : ∀ j u, (enc y)[j]? = some u → (W.alloc (.cells cs e)).cell? ((⟨W.heap.size, 0, none⟩ : Addr).add j) = some u := by
    intro j u hu
    rw [add_at, Nat.zero_add, World.cell?_alloc_at _ _ _ _ rfl, ← Array.getElem?_toList, hcs]
    exact hu
  refine wpList_append_own_at (W.alloc (.cells cs e)) hgd s x t ho base e i0 z sz bytes ht hi hz0 hz1 hz2 hzs he.pos v xs.length (flat enc xs) hs (HO.alloc _) ⟨W.heap.size, 0, none⟩ 1 1 (enc y) hx (by rw [he.len]; omega)
    hcell (he.one y) (by simp only [maxLen]; omega) hl (by simp; omega) ?_
  intro v1 w1 hown hg _ hat
  have hown' : w1.ownsRow base e sz v1 (xs ++ [y]).length (flat enc (xs ++ [y])) := by rw [flat_append, flat_one, List.length_append]; exact hown
  refine h v1 w1 hown' (((Below.refl base W).alloc hbase _).grown hg (by simp; omega) (own_block_le HO)) (World.grownBy.trans (World.grownBy_alloc W _ _) hg) ?_
  rcases hat with hat | hat
  · exact .inl hat
  · exact .inr ⟨_, hat, by simp⟩
end
end Go.Proofs.Ytdheckfndldbmaa

namespace Go.Proofs.Ytdheckfndldbmaa
open Go.RowKit

theorem make_eq {P : Program} (t e : TypeId) (z : Value) (size bytes : Nat) (ht : P.underlying t = some (.slice e)) (hinfo : (P.info? e).map (fun i => (i.zero, i.size, i.bytes)) = some (some z, size, bytes)) (n : Nat) (hb : n * bytes ≤ 140737488355328) (hn : n ≤ 140737488355328) :
    ∀ W : World, (Instr.makeSlice t (.int .i64 (n : Int)) (.int .i64 (n : Int))).run P W = .ok (.slice (some ⟨W.heap.size, 0, none⟩) n n) (W.alloc (.cells (madeCells z.cells (n * size)) e)) := by
  obtain ⟨i, hi, hz, hsz, hby⟩ := info_parts hinfo
  intro W
  have h1 : ((n * bytes : Nat) : Int) ≤ 281474976710656 := by omega
  have h2 : (i.bytes : Int) * (n : Int) ≤ 281474976710656 := by rw [hby, Int.mul_comm]; rwa [Int.natCast_mul] at h1
  have := run_make (P := P) W t e i z ht hi hz .i64 .i64 n n (Int.natCast_nonneg _) (Int.le_refl _) h2 (by omega)
  rw [hsz] at this
  simpa using this
theorem infoS : (Try.prog.info? 47).map (fun i => (i.zero, i.size, i.bytes)) = some (some (.agg #[.int .i64 0, .int .u64 0]), 2, 16) := by kernel_rfl
theorem infoSS : (Try.prog.info? 47).map (·.size) = some 2 := by kernel_rfl
theorem infoB : (Try.prog.info? 4).map (fun i => (i.zero, i.size, i.bytes)) = some (some (.bool false), 1, 1) := by kernel_rfl
theorem infoSB : (Try.prog.info? 4).map (·.size) = some 1 := by kernel_rfl
theorem infoW : (Try.prog.info? 45).map (fun i => (i.zero, i.size, i.bytes)) = some (some (.agg #[.int .i64 0, .int .i64 0, .int .i64 0, .int .u64 0]), 4, 32) := by kernel_rfl
theorem infoSW : (Try.prog.info? 45).map (·.size) = some 4 := by kernel_rfl
theorem infoE : (Try.prog.info? 43).map (fun i => (i.zero, i.size, i.bytes)) = some (some (.agg #[.int .i64 0, .int .u64 0]), 2, 16) := by kernel_rfl
theorem infoSE : (Try.prog.info? 43).map (·.size) = some 2 := by kernel_rfl

set_option maxRecDepth 100000 in
set_option maxHeartbeats 600000 in
theorem ownS_c (A : Option Addr) (n cap : Nat) (xs : List E2) (w : World) (hm : n ≤ 1000000) (hR : Rd 2 encE w A n xs) :
    Calls Try.prog 65 #[.slice A n cap] w fun r w' => ∃ g, r = .returned (.slice (some ⟨g, 0, none⟩) n n) ∧ w.heap.size ≤ g ∧ Later w w' ∧ w'.heap[g]? = some (.cells (flat encE xs).toArray 47 (0, 0)) := by
  have HR : Hid (Rd 2 encE w A n xs) := hR
  clear hR
  have hmk := make_eq (P := Try.prog) 25 47 (.agg #[.int .i64 0, .int .u64 0]) 2 16 Try.underlying25 infoS n (by omega) (by omega)
  go_enter Try.func65, Try.ntmps65
  go_wp2_with (refine wpList_copy_rd (o := ⟨some 9, _, _, _, _, _⟩) rfl (.tmp 7) (.tmp 8) 25 25 rfl enc_E 47 Try.underlying25 infoSS w.heap.size n cap A rfl rfl _ (heap_alloc_new w _) (by simp [size_madeCells]) xs (HR.out.later ((Later.refl w).alloc _)) ?_)
  go_ret
  exact ⟨w.heap.size, rfl, Nat.le_refl _, later_setRow ((Later.refl w).alloc _) (Nat.le_refl _) _, setRow_heap _ _ _ _ _ _ (heap_alloc_new w _)⟩

set_option maxRecDepth 100000 in
set_option maxHeartbeats 600000 in
theorem ownB_c (A : Option Addr) (n cap : Nat) (xs : List Bool) (w : World) (hm : n ≤ 1000000) (hR : Rd 1 encB w A n xs) :
    Calls Try.prog 66 #[.slice A n cap] w fun r w' => ∃ g, r = .returned (.slice (some ⟨g, 0, none⟩) n n) ∧ w.heap.size ≤ g ∧ Later w w' ∧ w'.heap[g]? = some (.cells (flat encB xs).toArray 4 (0, 0)) := by
  have HR : Hid (Rd 1 encB w A n xs) := hR
  clear hR
  have hmk := make_eq (P := Try.prog) 28 4 (.bool false) 1 1 Try.underlying28 infoB n (by omega) (by omega)
  go_enter Try.func66, Try.ntmps66
  go_wp2_with (refine wpList_copy_rd (o := ⟨some 9, _, _, _, _, _⟩) rfl (.tmp 7) (.tmp 8) 28 28 rfl enc_B 4 Try.underlying28 infoSB w.heap.size n cap A rfl rfl _ (heap_alloc_new w _) (by simp [size_madeCells]) xs (HR.out.later ((Later.refl w).alloc _)) ?_)
  go_ret
  exact ⟨w.heap.size, rfl, Nat.le_refl _, later_setRow ((Later.refl w).alloc _) (Nat.le_refl _) _, setRow_heap _ _ _ _ _ _ (heap_alloc_new w _)⟩

set_option maxRecDepth 100000 in
set_option maxHeartbeats 600000 in
theorem ownW_c (A : Option Addr) (n cap : Nat) (xs : List W4) (w : World) (hm : n ≤ 1000000) (hR : Rd 4 encW w A n xs) :
    Calls Try.prog 67 #[.slice A n cap] w fun r w' => ∃ g, r = .returned (.slice (some ⟨g, 0, none⟩) n n) ∧ w.heap.size ≤ g ∧ Later w w' ∧ w'.heap[g]? = some (.cells (flat encW xs).toArray 45 (0, 0)) := by
  have HR : Hid (Rd 4 encW w A n xs) := hR
  clear hR
  have hmk := make_eq (P := Try.prog) 30 45 (.agg #[.int .i64 0, .int .i64 0, .int .i64 0, .int .u64 0]) 4 32 Try.underlying30 infoW n (by omega) (by omega)
  go_enter Try.func67, Try.ntmps67
  go_wp2_with (refine wpList_copy_rd (o := ⟨some 9, _, _, _, _, _⟩) rfl (.tmp 7) (.tmp 8) 30 30 rfl enc_W 45 Try.underlying30 infoSW w.heap.size n cap A rfl rfl _ (heap_alloc_new w _) (by simp [size_madeCells]) xs (HR.out.later ((Later.refl w).alloc _)) ?_)
  go_ret
  exact ⟨w.heap.size, rfl, Nat.le_refl _, later_setRow ((Later.refl w).alloc _) (Nat.le_refl _) _, setRow_heap _ _ _ _ _ _ (heap_alloc_new w _)⟩

set_option maxRecDepth 100000 in
set_option maxHeartbeats 600000 in
theorem ownE_c (A : Option Addr) (n cap : Nat) (xs : List E2) (w : World) (hm : n ≤ 1000000) (hR : Rd 2 encE w A n xs) :
    Calls Try.prog 68 #[.slice A n cap] w fun r w' => ∃ g, r = .returned (.slice (some ⟨g, 0, none⟩) n n) ∧ w.heap.size ≤ g ∧ Later w w' ∧ w'.heap[g]? = some (.cells (flat encE xs).toArray 43 (0, 0)) := by
  have HR : Hid (Rd 2 encE w A n xs) := hR
  clear hR
  have hmk := make_eq (P := Try.prog) 54 43 (.agg #[.int .i64 0, .int .u64 0]) 2 16 Try.underlying54 infoE n (by omega) (by omega)
  go_enter Try.func68, Try.ntmps68
  go_wp2_with (refine wpList_copy_rd (o := ⟨some 9, _, _, _, _, _⟩) rfl (.tmp 7) (.tmp 8) 54 54 rfl enc_E 43 Try.underlying54 infoSE w.heap.size n cap A rfl rfl _ (heap_alloc_new w _) (by simp [size_madeCells]) xs (HR.out.later ((Later.refl w).alloc _)) ?_)
  go_ret
  exact ⟨w.heap.size, rfl, Nat.le_refl _, later_setRow ((Later.refl w).alloc _) (Nat.le_refl _) _, setRow_heap _ _ _ _ _ _ (heap_alloc_new w _)⟩

set_option maxRecDepth 100000 in
set_option maxHeartbeats 600000 in
theorem cloneS_c (A : Option Addr) (n cap : Nat) (xs : List E2) (w : World) (hm : n ≤ 1000000) (hR : Rd 2 encE w A n xs) :
    Calls Try.prog 46 #[.slice A n cap] w fun r w' => ∃ v, r = .returned v ∧ Later w w' ∧ w'.ownsRow w.heap.size 47 2 v n (flat encE xs) := by
  have q : ∀ (w : World) (a : Option Addr) (n c n' c' : Nat), (binOp .eql 25 (.slice a n c) (.slice none n' c')).run Try.prog w = .ok (.bool a.isNone) w := fun w a n c n' c' => Lib.run_eql_slice_nil w _ _ a n c n' c' Try.underlying25
  rcases A with _ | ad
  · have h0 : n = 0 := by
      rcases Nat.eq_zero_or_pos n with h | h
      · exact h
      · obtain ⟨b, off, e, _⟩ := hR.2 h
        cases e
    subst h0
    have hx : xs = [] := List.eq_nil_of_length_eq_zero hR.1
    subst hx
    clear hR hm
    go_enter Try.func46, Try.ntmps46
    go_wp2
    go_ret
    exact ⟨_, rfl, Later.refl _, World.ownsRow_nil _ _ _ _⟩
  · have HC : Hid (∀ W, Later w W → ∀ j u, (flat encE xs)[j]? = some u → W.cell? (ad.add j) = some u) := by
      intro W hW j u hu
      rcases Nat.eq_zero_or_pos n with h | h
      · subst h
        have hx : xs = [] := List.eq_nil_of_length_eq_zero hR.1
        subst hx
        simp [flat] at hu
      · obtain ⟨b, off, e, hc⟩ := hR.flat enc_E h
        cases e
        have := hc j u hu
        rw [add_at] at this ⊢
        exact hW.of_cell this
    have Hl : Hid ((flat encE xs).length = n * 2) := by show _ = _; rw [flat_len enc_E, hR.1]
    clear hR
    obtain ⟨i0, hi, hz0, hz1, hz2⟩ := info_parts infoS
    have Hi : Hid (Try.prog.info? 47 = some i0) := hi
    have Hz0 : Hid (i0.zero = some (.agg #[.int .i64 0, .int .u64 0])) := hz0
    have Hz1 : Hid (i0.size = 2) := hz1
    have Hz2 : Hid (i0.bytes = 16) := hz2
    clear hi hz0 hz1 hz2
    go_enter Try.func46, Try.ntmps46
    go_wp2_with (at_builtin; refine wpList_append_own_at _ rfl _ _ 25 rfl w.heap.size 47 i0 (.agg #[.int .i64 0, .int .u64 0]) 2 16 Try.underlying25 Hi.out Hz0.out Hz1.out Hz2.out rfl (by decide) _ 0 [] rfl (World.ownsRow_lit w #[] 0 (Nat.le_refl _) (by simp [maxLen]) rfl) ad n cap (flat encE xs) rfl Hl.out (HC.out _ ((Later.refl w).alloc _)) (flat_one_cell enc_E xs) (by simp only [maxLen]; omega) (by omega) (by simp) ?_; intro v1 w1 hown hg _ _)
    go_ret
    exact ⟨v1, rfl, later_grown ((Later.refl w).alloc _) hg (fun k e => by cases e; exact Nat.le_refl _), by simpa using hown⟩

set_option maxRecDepth 100000 in
set_option maxHeartbeats 600000 in
theorem cloneB_c (A : Option Addr) (n cap : Nat) (xs : List Bool) (w : World) (hm : n ≤ 1000000) (hR : Rd 1 encB w A n xs) :
    Calls Try.prog 47 #[.slice A n cap] w fun r w' => ∃ v, r = .returned v ∧ Later w w' ∧ w'.ownsRow w.heap.size 4 1 v n (flat encB xs) := by
  have q : ∀ (w : World) (a : Option Addr) (n c n' c' : Nat), (binOp .eql 28 (.slice a n c) (.slice none n' c')).run Try.prog w = .ok (.bool a.isNone) w := fun w a n c n' c' => Lib.run_eql_slice_nil w _ _ a n c n' c' Try.underlying28
  rcases A with _ | ad
  · have h0 : n = 0 := by
      rcases Nat.eq_zero_or_pos n with h | h
      · exact h
      · obtain ⟨b, off, e, _⟩ := hR.2 h
        cases e
    subst h0
    have hx : xs = [] := List.eq_nil_of_length_eq_zero hR.1
    subst hx
    clear hR hm
    go_enter Try.func47, Try.ntmps47
    go_wp2
    go_ret
    exact ⟨_, rfl, Later.refl _, World.ownsRow_nil _ _ _ _⟩
  · have HC : Hid (∀ W, Later w W → ∀ j u, (flat encB xs)[j]? = some u → W.cell? (ad.add j) = some u) := by
      intro W hW j u hu
      rcases Nat.eq_zero_or_pos n with h | h
      · subst h
        have hx : xs = [] := List.eq_nil_of_length_eq_zero hR.1
        subst hx
        simp [flat] at hu
      · obtain ⟨b, off, e, hc⟩ := hR.flat enc_B h
        cases e
        have := hc j u hu
        rw [add_at] at this ⊢
        exact hW.of_cell this
    have Hl : Hid ((flat encB xs).length = n * 1) := by show _ = _; rw [flat_len enc_B, hR.1]
    clear hR
    obtain ⟨i0, hi, hz0, hz1, hz2⟩ := info_parts infoB
    have Hi : Hid (Try.prog.info? 4 = some i0) := hi
    have Hz0 : Hid (i0.zero = some (.bool false)) := hz0
    have Hz1 : Hid (i0.size = 1) := hz1
    have Hz2 : Hid (i0.bytes = 1) := hz2
    clear hi hz0 hz1 hz2
    go_enter Try.func47, Try.ntmps47
    go_wp2_with (at_builtin; refine wpList_append_own_at _ rfl _ _ 28 rfl w.heap.size 4 i0 (.bool false) 1 1 Try.underlying28 Hi.out Hz0.out Hz1.out Hz2.out rfl (by decide) _ 0 [] rfl (World.ownsRow_lit w #[] 0 (Nat.le_refl _) (by simp [maxLen]) rfl) ad n cap (flat encB xs) rfl Hl.out (HC.out _ ((Later.refl w).alloc _)) (flat_one_cell enc_B xs) (by simp only [maxLen]; omega) (by omega) (by simp) ?_; intro v1 w1 hown hg _ _)
    go_ret
    exact ⟨v1, rfl, later_grown ((Later.refl w).alloc _) hg (fun k e => by cases e; exact Nat.le_refl _), by simpa using hown⟩

set_option maxRecDepth 100000 in
set_option maxHeartbeats 600000 in
theorem cloneW_c (A : Option Addr) (n cap : Nat) (xs : List W4) (w : World) (hm : n ≤ 1000000) (hR : Rd 4 encW w A n xs) :
    Calls Try.prog 48 #[.slice A n cap] w fun r w' => ∃ v, r = .returned v ∧ Later w w' ∧ w'.ownsRow w.heap.size 45 4 v n (flat encW xs) := by
  have q : ∀ (w : World) (a : Option Addr) (n c n' c' : Nat), (binOp .eql 30 (.slice a n c) (.slice none n' c')).run Try.prog w = .ok (.bool a.isNone) w := fun w a n c n' c' => Lib.run_eql_slice_nil w _ _ a n c n' c' Try.underlying30
  rcases A with _ | ad
  · have h0 : n = 0 := by
      rcases Nat.eq_zero_or_pos n with h | h
      · exact h
      · obtain ⟨b, off, e, _⟩ := hR.2 h
        cases e
    subst h0
    have hx : xs = [] := List.eq_nil_of_length_eq_zero hR.1
    subst hx
    clear hR hm
    go_enter Try.func48, Try.ntmps48
    go_wp2
    go_ret
    exact ⟨_, rfl, Later.refl _, World.ownsRow_nil _ _ _ _⟩
  · have HC : Hid (∀ W, Later w W → ∀ j u, (flat encW xs)[j]? = some u → W.cell? (ad.add j) = some u) := by
      intro W hW j u hu
      rcases Nat.eq_zero_or_pos n with h | h
      · subst h
        have hx : xs = [] := List.eq_nil_of_length_eq_zero hR.1
        subst hx
        simp [flat] at hu
      · obtain ⟨b, off, e, hc⟩ := hR.flat enc_W h
        cases e
        have := hc j u hu
        rw [add_at] at this ⊢
        exact hW.of_cell this
    have Hl : Hid ((flat encW xs).length = n * 4) := by show _ = _; rw [flat_len enc_W, hR.1]
    clear hR
    obtain ⟨i0, hi, hz0, hz1, hz2⟩ := info_parts infoW
    have Hi : Hid (Try.prog.info? 45 = some i0) := hi
    have Hz0 : Hid (i0.zero = some (.agg #[.int .i64 0, .int .i64 0, .int .i64 0, .int .u64 0])) := hz0
    have Hz1 : Hid (i0.size = 4) := hz1
    have Hz2 : Hid (i0.bytes = 32) := hz2
    clear hi hz0 hz1 hz2
    go_enter Try.func48, Try.ntmps48
    go_wp2_with (at_builtin; refine wpList_append_own_at _ rfl _ _ 30 rfl w.heap.size 45 i0 (.agg #[.int .i64 0, .int .i64 0, .int .i64 0, .int .u64 0]) 4 32 Try.underlying30 Hi.out Hz0.out Hz1.out Hz2.out rfl (by decide) _ 0 [] rfl (World.ownsRow_lit w #[] 0 (Nat.le_refl _) (by simp [maxLen]) rfl) ad n cap (flat encW xs) rfl Hl.out (HC.out _ ((Later.refl w).alloc _)) (flat_one_cell enc_W xs) (by simp only [maxLen]; omega) (by omega) (by simp) ?_; intro v1 w1 hown hg _ _)
    go_ret
    exact ⟨v1, rfl, later_grown ((Later.refl w).alloc _) hg (fun k e => by cases e; exact Nat.le_refl _), by simpa using hown⟩

set_option maxRecDepth 100000 in
set_option maxHeartbeats 600000 in
theorem cloneE_c (A : Option Addr) (n cap : Nat) (xs : List E2) (w : World) (hm : n ≤ 1000000) (hR : Rd 2 encE w A n xs) :
    Calls Try.prog 49 #[.slice A n cap] w fun r w' => ∃ v, r = .returned v ∧ Later w w' ∧ w'.ownsRow w.heap.size 43 2 v n (flat encE xs) := by
  have q : ∀ (w : World) (a : Option Addr) (n c n' c' : Nat), (binOp .eql 54 (.slice a n c) (.slice none n' c')).run Try.prog w = .ok (.bool a.isNone) w := fun w a n c n' c' => Lib.run_eql_slice_nil w _ _ a n c n' c' Try.underlying54
  rcases A with _ | ad
  · have h0 : n = 0 := by
      rcases Nat.eq_zero_or_pos n with h | h
      · exact h
      · obtain ⟨b, off, e, _⟩ := hR.2 h
        cases e
    subst h0
    have hx : xs = [] := List.eq_nil_of_length_eq_zero hR.1
    subst hx
    clear hR hm
    go_enter Try.func49, Try.ntmps49
    go_wp2
    go_ret
    exact ⟨_, rfl, Later.refl _, World.ownsRow_nil _ _ _ _⟩
  · have HC : Hid (∀ W, Later w W → ∀ j u, (flat encE xs)[j]? = some u → W.cell? (ad.add j) = some u) := by
      intro W hW j u hu
      rcases Nat.eq_zero_or_pos n with h | h
      · subst h
        have hx : xs = [] := List.eq_nil_of_length_eq_zero hR.1
        subst hx
        simp [flat] at hu
      · obtain ⟨b, off, e, hc⟩ := hR.flat enc_E h
        cases e
        have := hc j u hu
        rw [add_at] at this ⊢
        exact hW.of_cell this
    have Hl : Hid ((flat encE xs).length = n * 2) := by show _ = _; rw [flat_len enc_E, hR.1]
    clear hR
    obtain ⟨i0, hi, hz0, hz1, hz2⟩ := info_parts infoE
    have Hi : Hid (Try.prog.info? 43 = some i0) := hi
    have Hz0 : Hid (i0.zero = some (.agg #[.int .i64 0, .int .u64 0])) := hz0
    have Hz1 : Hid (i0.size = 2) := hz1
    have Hz2 : Hid (i0.bytes = 16) := hz2
    clear hi hz0 hz1 hz2
    go_enter Try.func49, Try.ntmps49
    go_wp2_with (at_builtin; refine wpList_append_own_at _ rfl _ _ 54 rfl w.heap.size 43 i0 (.agg #[.int .i64 0, .int .u64 0]) 2 16 Try.underlying54 Hi.out Hz0.out Hz1.out Hz2.out rfl (by decide) _ 0 [] rfl (World.ownsRow_lit w #[] 0 (Nat.le_refl _) (by simp [maxLen]) rfl) ad n cap (flat encE xs) rfl Hl.out (HC.out _ ((Later.refl w).alloc _)) (flat_one_cell enc_E xs) (by simp only [maxLen]; omega) (by omega) (by simp) ?_; intro v1 w1 hown hg _ _)
    go_ret
    exact ⟨v1, rfl, later_grown ((Later.refl w).alloc _) hg (fun k e => by cases e; exact Nat.le_refl _), by simpa using hown⟩
end Go.Proofs.Ytdheckfndldbmaa
