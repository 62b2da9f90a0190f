/- The arena's Check, Same and Tag; the reference's Right, Same, entries. | The arena's Same and Tag; the reference's Right, Same, entries, row. | The reference's entries and Same: row by row. | A row of entries that a goroutine may have (the reference's row). | A monitor as data; what an entry's slab is; good touches; holders; what is safe (the reference's). | The reference's tagged, Good, Holders, Safe. | The reference's Holders and Safe. | The reference's Safe, and what is wrong with a touch. -/
import Derived.Test.YtdheckfndldbmaaM02
namespace Go.Proofs.Ytdheckfndldbmaa
open Go.RowKit

theorem cf_slabOk (args : Array Value) (W : World) : (callFunc 60 args).run Try.prog W = .ok (.enter 60 args) W := by go_simp
theorem cf_all1 (args : Array Value) (W : World) : (callFunc 80 args).run Try.prog W = .ok (.enter 80 args) W := by go_simp

set_option maxHeartbeats 400000 in
theorem all1_c (b : Nat) (s g : Int) (w : World) (hc : ∀ W, Later w W → W.cell? ⟨b, 0, none⟩ = some (.func (.func 60) #[] #[])) :
    Calls Try.prog 80 (#[.agg #[.int .i64 s, .int .u64 g]] ++ #[.pointer (some ⟨b, 0, none⟩)]) w fun r w' => r = .returned (.bool (!slabOk (s, g))) ∧ Later w w' := by
  go_enter Try.func80, Try.ntmps80
  go_wp2_with (go_at_call 60; refine (slabOk_c s g _).mono ?_; rintro e w1 ⟨rfl, hL1⟩)
  go_ret
  exact ⟨rfl, ((Later.refl w).alloc _).trans hL1⟩
set_option maxHeartbeats 400000 in
theorem all_c (A : Option Addr) (n cap : Nat) (xs : List E2) (w : World) (hm : n ≤ 9223372036854775807) (hR : Rd 2 encE w A n xs) :
    Calls Try.prog 61 #[.slice A n cap, .func (.func 60) #[] #[]] w fun r w' => r = .returned (.bool (xs.all slabOk)) ∧ Later w w' := by
  obtain ⟨wb, hwb, hL, hz, f1, _⟩ := box1 w #[.func (.func 60) #[] #[]] 100
  have b0 := f1 0 (.func (.func 60) #[] #[]) rfl
  have HR : Hid (Rd 2 encE wb A n xs) := hR.later hL
  clear f1 hR
  have Hc : Hid (Calls Try.prog 79 #[.slice A n cap, .func (.func 80) #[] #[.pointer (some ⟨w.heap.size, 0, none⟩)]] wb fun r w' => r = .returned (.bool (xs.any fun x => !slabOk x)) ∧ Later wb w') :=
    containsfS_c A n cap xs (fun x => !slabOk x) _ _ wb hm HR.out cf_all1 fun x _ W hW => all1_c w.heap.size x.1 x.2 W (celw hW b0)
  go_enter Try.func61, Try.ntmps61
  go_wp2_with (go_at_call 79; rw [hwb.out]; refine Hc.out.mono ?_; rintro e w1 ⟨rfl, hL1⟩)
  go_ret
  exact ⟨ret_bool (by rw [List.all_eq_not_any_not]), hL.trans hL1⟩

/-- an arena that may be -/
def arenaOk (xs : List E2) : Bool := decide (2 ≤ xs.length) && (decide (xs.length ≤ 128) && xs.all slabOk)
def ckA (xs : List E2) : Int := if arenaOk xs then 0 else 210
theorem ckA_bad {xs : List E2} {n : Nat} (hx : xs.length = n) (h : ((n : Int) < 2 ∨ 128 < (n : Int)) ∨ (!xs.all slabOk) = true) : ckA xs = 210 := by
  unfold ckA
  rw [if_neg]
  intro hh
  simp only [arenaOk, hx, Bool.and_eq_true, decide_eq_true_eq] at hh
  rcases h with h | h
  · omega
  · rw [hh.2.2] at h; simp at h
theorem ckA_good {xs : List E2} {n : Nat} (hx : xs.length = n) (h1 : 2 ≤ (n : Int)) (h2 : (n : Int) ≤ 128) (h : (!xs.all slabOk) = false) : ckA xs = 0 := by
  unfold ckA
  rw [if_pos]
  simp only [arenaOk, hx, Bool.and_eq_true, decide_eq_true_eq]
  refine ⟨by omega, by omega, by simpa using h⟩
set_option maxHeartbeats 400000 in
theorem acheck_c (A : Option Addr) (n cap : Nat) (xs : List E2) (w : World) (hm : n ≤ 9223372036854775807) (hR : Rd 2 encE w A n xs) :
    Calls Try.prog 34 #[.agg #[.slice A n cap]] w fun r w' => r = .returned (.int .i64 (ckA xs)) ∧ Later w w' := by
  obtain ⟨wb, hwb, hL, hz, f1, _⟩ := box1 w #[.slice A n cap] 27
  have b0 := f1 0 (.slice A n cap) rfl
  have Hx : Hid (xs.length = n) := hR.1
  have HR : Hid (Rd 2 encE wb A n xs) := hR.later hL
  clear f1 hR
  have Hc : Hid (∀ W, Later wb W → Calls Try.prog 61 #[.slice A n cap, .func (.func 60) #[] #[]] W fun r w' => r = .returned (.bool (xs.all slabOk)) ∧ Later W w') := fun W hW => all_c A n cap xs W hm (HR.out.later hW)
  go_enter Try.func34, Try.ntmps34
  go_wp2_with (go_at_call 61; rw [hwb.out]; refine (Hc.out _ (Later.refl _)).mono ?_; rintro e w1 ⟨rfl, hL1⟩)
  · go_ret
    exact ⟨ret_int (ckA_bad Hx.out (by assumption)).symm, hL.trans hL1⟩
  · go_ret
    rename_i h
    exact ⟨ret_int (ckA_good Hx.out h.1.1 h.1.2 h.2).symm, hL.trans hL1⟩
  · go_ret
    exact ⟨ret_int (ckA_bad Hx.out (.inl (.inr (by assumption)))).symm, by rw [hwb.out]; exact hL⟩
  · go_ret
    exact ⟨ret_int (ckA_bad Hx.out (.inl (.inl (by assumption)))).symm, by rw [hwb.out]; exact hL⟩
end Go.Proofs.Ytdheckfndldbmaa

namespace Go.Proofs.Ytdheckfndldbmaa
open Go.RowKit

set_option maxHeartbeats 400000 in
theorem asame_c (A : Option Addr) (n cap : Nat) (xs : List E2) (A' : Option Addr) (n' cap' : Nat) (ys : List E2) (w : World) (hm : n ≤ 9223372036854775807) (hR : Rd 2 encE w A n xs) (hR' : Rd 2 encE w A' n' ys) :
    Calls Try.prog 54 #[.agg #[.slice A n cap], .agg #[.slice A' n' cap']] w fun r w' => r = .returned (.bool (decide (xs = ys))) ∧ Later w w' := by
  have HR : Hid (Rd 2 encE w A n xs) := hR
  have HR' : Hid (Rd 2 encE w A' n' ys) := hR'
  have L : Hid (∀ o o', Later w ((w.alloc o).alloc o')) := fun o o' => ((Later.refl w).alloc o).alloc o'
  clear hR hR'
  go_enter Try.func54, Try.ntmps54
  go_wp2_with (go_at_call 77; refine (equalS_c A n cap xs A' n' cap' ys _ hm (HR.out.later (L.out _ _)) (HR'.out.later (L.out _ _))).mono ?_; rintro e w1 ⟨rfl, hL1⟩)
  go_ret
  exact ⟨rfl, (L.out _ _).trans hL1⟩

theorem slabOk_bad {s : E2} (h : s.1 < 0 ∨ 2 < s.1 ∨ 1099511627775 < s.2) : slabOk s = false := by
  cases hs : slabOk s with
  | false => rfl
  | true => simp only [slabOk, Bool.and_eq_true, decide_eq_true_eq] at hs; omega
theorem slabOk_good {s : E2} (h1 : 0 ≤ s.1) (h2 : s.1 ≤ 2) (h3 : s.2 ≤ 1099511627775) : slabOk s = true := by
  simp [slabOk, h1, h2, h3]
theorem all_bad {α : Type} (p : α → Bool) {xs : List α} {d : α} {k : Nat} (hk : k < xs.length) (h : p (xs[k]?.getD d) = false) : xs.all p = false := by
  rw [List.all_eq_false]; exact ⟨xs[k]?.getD d, getD_mem hk, by rw [h]; simp⟩
theorem all_good {α : Type} (p : α → Bool) {xs : List α} {k : Nat} (hk : xs.length ≤ k) (h : ∀ x ∈ xs.take k, (!p x) = false) : xs.all p = true := by
  rw [List.all_eq_true]; intro x hx; have := h x (by rwa [List.take_of_length_le hk]); simpa using this
theorem arenaOk_bad {xs : List E2} (h : xs.all slabOk = false) : arenaOk xs = false := by simp only [arenaOk, h, Bool.and_false]
theorem arenaOk_many {xs : List E2} {n : Nat} (hx : xs.length = n) (h : xs.all slabOk = true) : (decide (2 ≤ (n : Int)) && decide ((n : Int) ≤ 128)) = arenaOk xs := by
  simp only [arenaOk, h, hx, Bool.and_true]
  congr 1 <;> (apply decide_eq_decide.2; omega)

set_option maxRecDepth 100000 in
set_option maxHeartbeats 600000 in
theorem rright11_c (A : Option Addr) (n cap : Nat) (xs : List E2) (w : World) (hm : n ≤ 9223372036854775807) (hR : Rd 2 encE w A n xs) :
    Calls Try.prog 50 #[.agg #[.slice A n cap]] w fun r w' => r = .returned (.bool (arenaOk xs)) ∧ Later w w' := by
  obtain ⟨wb, hwb, hL, hz, f1, _⟩ := box1 w #[.slice A n cap] 27
  have b0 := f1 0 (.slice A n cap) rfl
  have Hx : Hid (xs.length = n) := hR.1
  have HR : Hid (Rd 2 encE wb A n xs) := hR.later hL
  clear f1 hR
  go_enter Try.func50, Try.ntmps50
  go_wp2
  rw [hwb.out]
  go_loopw [8] (fun i wr => ∃ k : Nat, k ≤ n ∧ i = .int .i64 k ∧ (∀ x ∈ xs.take k, (!slabOk x) = false) ∧ Later wb wr) (fun i _ => n - (intOf i).toNat)
  case atStart => exact ⟨0, Nat.zero_le _, rfl, by simp, Later.refl _⟩
  case round =>
    obtain ⟨k, hk, rfl, hne, hB⟩ := hrel
    have Hne : Hid (∀ x ∈ xs.take k, (!slabOk x) = false) := hne
    clear hne
    by_cases hlt : k < n
    · obtain ⟨b, off, rfl, d0, d1⟩ := HR.out.atE k hlt
      go_wp2
      case roundEnd =>
        go_roundw
        case rel => exact ⟨k + 1, by omega, by go_num, take_snoc_all (fun x => !slabOk x) xs (0, 0) k (by rw [Hx.out]; exact hlt) Hne.out (by rw [slabOk_good (s := xs[k]?.getD (0, 0)) (by omega) (by omega) (by omega)]; rfl), hB.alloc _⟩
        case measure => simp [intOf]; omega
      all_goals
        go_ret
        exact ⟨ret_bool (arenaOk_bad (all_bad slabOk (d := (0, 0)) (k := k) (by rw [Hx.out]; exact hlt) (slabOk_bad (by omega)))).symm, hL.trans (hB.alloc _)⟩
    · go_wp2_with (go_at_call 9; refine (many_c _ _).mono ?_; rintro e w1 ⟨rfl, rfl⟩)
      go_ret
      exact ⟨ret_bool (arenaOk_many Hx.out (all_good slabOk (k := k) (by rw [Hx.out]; omega) Hne.out)), hL.trans hB⟩
end Go.Proofs.Ytdheckfndldbmaa

namespace Go.Proofs.Ytdheckfndldbmaa
open Go.RowKit
attribute [local go_sem] merge_t merge_f merge_a merge_o

theorem ne_test {a b : E2} (h : a ≠ b) : (!decide (a.1 = b.1) || !decide (a.2 = b.2)) = true := by
  rw [Ne, Prod.ext_iff] at h
  simp only [Bool.or_eq_true, Bool.not_eq_true', decide_eq_false_iff_not]; omega
theorem eq_test {a b : E2} (h : a = b) : (!decide (a.1 = b.1) || !decide (a.2 = b.2)) = false := by rw [h]; simp

set_option maxRecDepth 100000 in
set_option maxHeartbeats 600000 in
theorem entries_c (A : Option Addr) (n cap : Nat) (xs : List E2) (A' : Option Addr) (n' cap' : Nat) (ys : List E2) (w : World) (hm : n ≤ 9223372036854775807) (hR : Rd 2 encE w A n xs) (hR' : Rd 2 encE w A' n' ys) :
    Calls Try.prog 33 #[.slice A n cap, .slice A' n' cap'] w fun r w' => r = .returned (.bool (decide (xs = ys))) ∧ Later w w' := by
  have HR : Hid (Rd 2 encE w A n xs) := hR
  have HR' : Hid (Rd 2 encE w A' n' ys) := hR'
  have Hx : Hid (xs.length = n) := hR.1
  have Hy : Hid (ys.length = n') := hR'.1
  clear hR hR'
  by_cases hn : n = n'
  · subst hn
    go_enter Try.func33, Try.ntmps33
    go_wp2
    go_loopw [14] (fun i wr => ∃ k : Nat, k ≤ n ∧ i = .int .i64 k ∧ xs.take k = ys.take k ∧ Later w wr) (fun i _ => n - (intOf i).toNat)
    case atStart => exact ⟨0, Nat.zero_le _, rfl, by simp, Later.refl _⟩
    case round =>
      obtain ⟨k, hk, rfl, heq, hB⟩ := hrel
      have Heq : Hid (xs.take k = ys.take k) := heq
      clear heq
      by_cases hlt : k < n
      · obtain ⟨b, off, rfl, x0, x1⟩ := HR.out.atE k hlt
        obtain ⟨b', off', rfl, y0, y1⟩ := HR'.out.atE k hlt
        obtain ⟨wc, hwc, hL2, _, f2, _⟩ := box1 wr #[.int .i64 (xs[k]?.getD (0, 0)).1, .int .u64 (xs[k]?.getD (0, 0)).2] 43
        have e0 := f2 0 (.int .i64 (xs[k]?.getD (0, 0)).1) rfl
        have e1 := f2 1 (.int .u64 (xs[k]?.getD (0, 0)).2) rfl
        have z0 := celw (hB.trans hL2) y0
        have z1 := celw (hB.trans hL2) y1
        clear f2
        by_cases he : xs[k]?.getD (0, 0) = ys[k]?.getD (0, 0)
        · have He : Hid (xs[k]?.getD (0, 0) = ys[k]?.getD (0, 0)) := he
          clear he
          go_wp2
          rw [hwc.out]
          refine region_draw (S := Later wc) (af := ?_) (by kernel_rfl) (by kernel_rfl) (fun _ h => h.drew) (Later.refl _) ?_ ?_
          rotate_left
          · repeat (first
              | (refine SeqL.val (v := ?_) (by rfl) (fun W hW => ?_) ?_; rotate_left; (· (go_simp; try with_reducible rfl)); try simp only [Act.put, List.setIfInBounds_toArray, List.set_cons_zero, List.set_cons_succ])
              | (refine SeqL.skip (by rfl) ?_; try simp only [Act.put, List.setIfInBounds_toArray, List.set_cons_zero, List.set_cons_succ])
              )
            exact SeqL.nil _
          intro w1 hL1
          rw [eq_test He.out]
          go_wp2
          go_roundw
          case rel => exact ⟨k + 1, by omega, by go_num, eq_take_snoc xs ys (0, 0) k n Heq.out He.out Hx.out Hy.out hlt, hB.trans (hL2.trans hL1)⟩
          case measure => simp [intOf]; omega
        · have He : Hid (¬ xs[k]?.getD (0, 0) = ys[k]?.getD (0, 0)) := he
          clear he
          go_wp2
          rw [hwc.out]
          refine region_draw (S := Later wc) (af := ?_) (by kernel_rfl) (by kernel_rfl) (fun _ h => h.drew) (Later.refl _) ?_ ?_
          rotate_left
          · repeat (first
              | (refine SeqL.val (v := ?_) (by rfl) (fun W hW => ?_) ?_; rotate_left; (· (go_simp; try with_reducible rfl)); try simp only [Act.put, List.setIfInBounds_toArray, List.set_cons_zero, List.set_cons_succ])
              | (refine SeqL.skip (by rfl) ?_; try simp only [Act.put, List.setIfInBounds_toArray, List.set_cons_zero, List.set_cons_succ])
              )
            exact SeqL.nil _
          intro w1 hL1
          rw [ne_test He.out]
          go_wp2
          go_ret
          exact ⟨ret_bool (by simp [ne_of_getD (0, 0) k He.out]), hB.trans (hL2.trans hL1)⟩
      · go_wp2
        go_ret
        exact ⟨ret_bool (by simp [eq_of_take Heq.out Hx.out Hy.out (by omega)]), hB⟩
  · have hne : ((n : Int) != n') = true := by rw [bne_iff_ne]; omega
    have Hne : Hid (¬ n = n') := hn
    clear hn
    go_enter Try.func33, Try.ntmps33
    go_wp2
    go_ret
    exact ⟨ret_bool (by have h1 := Hx.out; have h2 := Hy.out; have h3 := Hne.out; symm; rw [decide_eq_false_iff_not]; intro h; rw [h] at h1; omega), Later.refl _⟩

set_option maxRecDepth 100000 in
set_option maxHeartbeats 600000 in
theorem rsame11_c (A : Option Addr) (n cap : Nat) (xs : List E2) (A' : Option Addr) (n' cap' : Nat) (ys : List E2) (w : World) (hm : n ≤ 9223372036854775807) (hR : Rd 2 encE w A n xs) (hR' : Rd 2 encE w A' n' ys) :
    Calls Try.prog 32 #[.agg #[.slice A n cap], .agg #[.slice A' n' cap']] w fun r w' => r = .returned (.bool (decide (xs = ys))) ∧ Later w w' := by
  have Hx : Hid (xs.length = n) := hR.1
  have Hy : Hid (ys.length = n') := hR'.1
  obtain ⟨wb, hwb, hL, hz, f1, f2⟩ := box2 w #[.slice A n cap] 27 #[.slice A' n' cap'] 27
  have a0 := f1 0 (.slice A n cap) rfl
  have b0 := f2 0 (.slice A' n' cap') rfl
  clear f1 f2
  have HR : Hid (Rd 2 encE wb A n xs) := hR.later hL
  have HR' : Hid (Rd 2 encE wb A' n' ys) := hR'.later hL
  clear hR hR'
  by_cases hn : n = n'
  · subst hn
    go_enter Try.func32, Try.ntmps32
    go_wp2
    rw [hwb.out]
    go_loopw [17] (fun i wr => ∃ k : Nat, k ≤ n ∧ i = .int .i64 k ∧ xs.take k = ys.take k ∧ Later wb wr) (fun i _ => n - (intOf i).toNat)
    case atStart => exact ⟨0, Nat.zero_le _, rfl, by simp, Later.refl _⟩
    case round =>
      obtain ⟨k, hk, rfl, heq, hB⟩ := hrel
      have Heq : Hid (xs.take k = ys.take k) := heq
      clear heq
      by_cases hlt : k < n
      · obtain ⟨b, off, rfl, x0, x1⟩ := HR.out.atE k hlt
        obtain ⟨b', off', rfl, y0, y1⟩ := HR'.out.atE k hlt
        obtain ⟨wc, hwc, hL2, _, f2, _⟩ := box1 wr #[.int .i64 (xs[k]?.getD (0, 0)).1, .int .u64 (xs[k]?.getD (0, 0)).2] 47
        have e0 := f2 0 (.int .i64 (xs[k]?.getD (0, 0)).1) rfl
        have e1 := f2 1 (.int .u64 (xs[k]?.getD (0, 0)).2) rfl
        have z0 := celw (hB.trans hL2) y0
        have z1 := celw (hB.trans hL2) y1
        have zb := celw (hB.trans hL2) b0
        clear f2
        by_cases he : xs[k]?.getD (0, 0) = ys[k]?.getD (0, 0)
        · have He : Hid (xs[k]?.getD (0, 0) = ys[k]?.getD (0, 0)) := he
          clear he
          go_wp2
          rw [hwc.out]
          refine region_draw (S := Later wc) (af := ?_) (by kernel_rfl) (by kernel_rfl) (fun _ h => h.drew) (Later.refl _) ?_ ?_
          rotate_left
          · repeat (first
              | (refine SeqL.val (v := ?_) (by rfl) (fun W hW => ?_) ?_; rotate_left; (· (go_simp; try with_reducible rfl)); try simp only [Act.put, List.setIfInBounds_toArray, List.set_cons_zero, List.set_cons_succ])
              | (refine SeqL.skip (by rfl) ?_; try simp only [Act.put, List.setIfInBounds_toArray, List.set_cons_zero, List.set_cons_succ])
              )
            exact SeqL.nil _
          intro w1 hL1
          rw [eq_test He.out]
          go_wp2
          go_roundw
          case rel => exact ⟨k + 1, by omega, by go_num, eq_take_snoc xs ys (0, 0) k n Heq.out He.out Hx.out Hy.out hlt, hB.trans (hL2.trans hL1)⟩
          case measure => simp [intOf]; omega
        · have He : Hid (¬ xs[k]?.getD (0, 0) = ys[k]?.getD (0, 0)) := he
          clear he
          go_wp2
          rw [hwc.out]
          refine region_draw (S := Later wc) (af := ?_) (by kernel_rfl) (by kernel_rfl) (fun _ h => h.drew) (Later.refl _) ?_ ?_
          rotate_left
          · repeat (first
              | (refine SeqL.val (v := ?_) (by rfl) (fun W hW => ?_) ?_; rotate_left; (· (go_simp; try with_reducible rfl)); try simp only [Act.put, List.setIfInBounds_toArray, List.set_cons_zero, List.set_cons_succ])
              | (refine SeqL.skip (by rfl) ?_; try simp only [Act.put, List.setIfInBounds_toArray, List.set_cons_zero, List.set_cons_succ])
              )
            exact SeqL.nil _
          intro w1 hL1
          rw [ne_test He.out]
          go_wp2
          go_ret
          exact ⟨ret_bool (by simp [ne_of_getD (0, 0) k He.out]), hL.trans (hB.trans (hL2.trans hL1))⟩
      · go_wp2
        go_ret
        exact ⟨ret_bool (by simp [eq_of_take Heq.out Hx.out Hy.out (by omega)]), hL.trans hB⟩
  · have hne : ((n : Int) != n') = true := by rw [bne_iff_ne]; omega
    have Hne : Hid (¬ n = n') := hn
    clear hn
    go_enter Try.func32, Try.ntmps32
    go_wp2
    rw [hwb.out]
    go_ret
    exact ⟨ret_bool (by have h1 := Hx.out; have h2 := Hy.out; have h3 := Hne.out; symm; rw [decide_eq_false_iff_not]; intro h; rw [h] at h1; omega), hL⟩
end Go.Proofs.Ytdheckfndldbmaa

namespace Go.Proofs.Ytdheckfndldbmaa
open Go.RowKit
attribute [local go_sem] merge_t merge_f merge_a merge_o

/-- all are entries, and no two the same -/
def rowOk (l : List E2) : Bool := l.all entryOk && decide l.Nodup
def rowP (l : List E2) (p : Bool) : Bool := rowOk l && (p || decide (l.length = 0))
theorem nodup_snoc {l : List E2} {k : Nat} (hk : k < l.length) (h : (l.take k).Nodup) (hn : l[k]?.getD (0, 0) ∉ l.take k) : (l.take (k + 1)).Nodup := by
  rw [List.take_succ_eq_append_getElem hk]
  rw [List.getElem?_eq_getElem hk, Option.getD_some] at hn
  rw [List.nodup_append]
  refine ⟨h, by simp, fun a ha b hb => ?_⟩
  rw [List.mem_singleton] at hb
  subst hb
  intro e; subst e; exact hn ha
theorem nodup_bad {l : List E2} {k : Nat} (hk : k < l.length) (hn : l[k]?.getD (0, 0) ∈ l.take k) : ¬ l.Nodup := by
  intro h
  rw [← List.take_append_drop k l, List.nodup_append] at h
  refine h.2.2 _ hn _ ?_ rfl
  rw [List.getElem?_eq_getElem hk, Option.getD_some, List.drop_eq_getElem_cons hk]
  exact List.mem_cons_self
theorem rowOk_bad1 {l : List E2} {k : Nat} (hk : k < l.length) (h : entryOk (l[k]?.getD (0, 0)) = false) : rowOk l = false := by
  rw [rowOk, all_bad entryOk hk h]; rfl
theorem rowOk_bad2 {l : List E2} {k : Nat} (hk : k < l.length) (h : l[k]?.getD (0, 0) ∈ l.take k) : rowOk l = false := by
  rw [rowOk, decide_eq_false (nodup_bad hk h), Bool.and_false]
theorem rowOk_good {l : List E2} {k : Nat} (hk : l.length ≤ k) (h : ∀ x ∈ l.take k, (!entryOk x) = false) (hn : (l.take k).Nodup) : rowOk l = true := by
  rw [List.take_of_length_le hk] at hn
  rw [rowOk, all_good entryOk hk h, decide_eq_true hn]; rfl

set_option maxRecDepth 100000 in
set_option maxHeartbeats 600000 in
theorem row_c (A : Option Addr) (n cap : Nat) (xs : List E2) (p : Bool) (w : World) (hm : n ≤ 9223372036854775807) (hcap : n ≤ cap) (hcm : cap ≤ 9223372036854775807) (hR : Rd 2 encE w A n xs) :
    Calls Try.prog 51 #[.slice A n cap, .bool p] w fun r w' => r = .returned (.bool (rowP xs p)) ∧ Later w w' := by
  have HR : Hid (Rd 2 encE w A n xs) := hR
  have Hx : Hid (xs.length = n) := hR.1
  clear hR
  go_enter Try.func51, Try.ntmps51
  go_wp2
  go_loopw [9] (fun i wr => ∃ k : Nat, k ≤ n ∧ i = .int .i64 k ∧ (∀ x ∈ xs.take k, (!entryOk x) = false) ∧ (xs.take k).Nodup ∧ Later w wr) (fun i _ => n - (intOf i).toNat)
  case atStart => exact ⟨0, Nat.zero_le _, rfl, by simp, by simp, Later.refl _⟩
  case round =>
    obtain ⟨k, hk, rfl, hne, hnd, hB⟩ := hrel
    have Hne : Hid (∀ x ∈ xs.take k, (!entryOk x) = false) := hne
    have Hnd : Hid (xs.take k).Nodup := hnd
    clear hne hnd
    by_cases hlt : k < n
    · obtain ⟨b, off, rfl, x0, x1⟩ := HR.out.atE k hlt
      obtain ⟨wc, hwc, hL2, _, f2, _⟩ := box1 wr #[.int .i64 (xs[k]?.getD (0, 0)).1, .int .u64 (xs[k]?.getD (0, 0)).2] 43
      have e0 := f2 0 (.int .i64 (xs[k]?.getD (0, 0)).1) rfl
      have e1 := f2 1 (.int .u64 (xs[k]?.getD (0, 0)).2) rfl
      clear f2
      have hkc : k ≤ cap := by omega
      cases hE : entryOk (xs[k]?.getD (0, 0)) with
      | false =>
        have cE : Hid (∀ W, Calls Try.prog 52 #[.agg #[.int .i64 (xs[k]?.getD (0, 0)).1, .int .u64 (xs[k]?.getD (0, 0)).2]] W fun r w' => r = .returned (.bool false) ∧ Later W w') := fun W => by rw [← hE]; exact rentry_c _ _ W
        have HE : Hid (entryOk (xs[k]?.getD (0, 0)) = false) := hE
        clear hE
        go_wp2
        rw [hwc.out]
        refine region_draw (S := Later wc) (af := ?_) (by kernel_rfl) (by kernel_rfl) (fun _ h => h.drew) (Later.refl _) ?_ ?_
        rotate_left
        · repeat (first
            | (refine SeqL.val (v := ?_) (by rfl) (fun W hW => ?_) ?_; rotate_left; (· (go_simp; try with_reducible rfl)); try simp only [Act.put, List.setIfInBounds_toArray, List.set_cons_zero, List.set_cons_succ])
            | (refine SeqL.skip (by rfl) ?_; try simp only [Act.put, List.setIfInBounds_toArray, List.set_cons_zero, List.set_cons_succ])
            | (refine SeqL.call (v := ?_) (f := ?_) (args := ?_) (by rfl) (fun W hW => ?_) (fun W hW => ?_) ?_; rotate_left 3; (· (go_simp; first | with_reducible rfl | (refine ⟨?_, ?_⟩ <;> with_reducible rfl))); (· ((with_reducible refine (cE.out W).mono ?_); rintro e W1 ⟨rfl, hL1⟩; refine ⟨?_, hW.trans hL1⟩; with_reducible rfl)); try simp only [Act.put, List.setIfInBounds_toArray, List.set_cons_zero, List.set_cons_succ])
            )
          exact SeqL.nil _
        intro w1 hL1
        go_wp2
        go_ret
        exact ⟨ret_bool (by rw [rowP, rowOk_bad1 (by rw [Hx.out]; exact hlt) HE.out]; rfl), hB.trans (hL2.trans hL1)⟩
      | true =>
        have cE : Hid (∀ W, Calls Try.prog 52 #[.agg #[.int .i64 (xs[k]?.getD (0, 0)).1, .int .u64 (xs[k]?.getD (0, 0)).2]] W fun r w' => r = .returned (.bool true) ∧ Later W w') := fun W => by rw [← hE]; exact rentry_c _ _ W
        have HE : Hid (entryOk (xs[k]?.getD (0, 0)) = true) := hE
        clear hE
        by_cases hin : xs[k]?.getD (0, 0) ∈ xs.take k
        · have cH : Hid (∀ W, Later wc W → Calls Try.prog 58 #[.slice (some ⟨b, off, none⟩) k cap, .agg #[.int .i64 (xs[k]?.getD (0, 0)).1, .int .u64 (xs[k]?.getD (0, 0)).2]] W fun r w' => r = .returned (.bool true) ∧ Later W w') := fun W hW => by
            have := has_c (some ⟨b, off, none⟩) k cap (xs.take k) (xs[k]?.getD (0, 0)).1 (xs[k]?.getD (0, 0)).2 W (by omega) ((HR.out.take k hk).later (hB.trans (hL2.trans hW)))
            rwa [decide_eq_true (show ((xs[k]?.getD (0, 0)).1, (xs[k]?.getD (0, 0)).2) ∈ xs.take k from hin)] at this
          have Hin : Hid (xs[k]?.getD (0, 0) ∈ xs.take k) := hin
          clear hin
          go_wp2
          rw [hwc.out]
          refine region_draw (S := Later wc) (af := ?_) (by kernel_rfl) (by kernel_rfl) (fun _ h => h.drew) (Later.refl _) ?_ ?_
          rotate_left
          · repeat (first
              | (refine SeqL.val (v := ?_) (by rfl) (fun W hW => ?_) ?_; rotate_left; (· (go_simp; try with_reducible rfl)); try simp only [Act.put, List.setIfInBounds_toArray, List.set_cons_zero, List.set_cons_succ])
              | (refine SeqL.skip (by rfl) ?_; try simp only [Act.put, List.setIfInBounds_toArray, List.set_cons_zero, List.set_cons_succ])
              | (refine SeqL.call (v := ?_) (f := ?_) (args := ?_) (by rfl) (fun W hW => ?_) (fun W hW => ?_) ?_; rotate_left 3; (· (go_simp; first | with_reducible rfl | (refine ⟨?_, ?_⟩ <;> with_reducible rfl))); (· ((with_reducible refine (cE.out W).mono ?_); rintro e W1 ⟨rfl, hL1⟩; refine ⟨?_, hW.trans hL1⟩; with_reducible rfl)); try simp only [Act.put, List.setIfInBounds_toArray, List.set_cons_zero, List.set_cons_succ])
              | (refine SeqL.call (v := ?_) (f := ?_) (args := ?_) (by rfl) (fun W hW => ?_) (fun W hW => ?_) ?_; rotate_left 3; (· (go_simp; first | with_reducible rfl | (refine ⟨?_, ?_⟩ <;> with_reducible rfl))); (· ((with_reducible refine (cH.out W hW).mono ?_); rintro e W1 ⟨rfl, hL1⟩; refine ⟨?_, hW.trans hL1⟩; with_reducible rfl)); try simp only [Act.put, List.setIfInBounds_toArray, List.set_cons_zero, List.set_cons_succ])
              )
            exact SeqL.nil _
          intro w1 hL1
          go_wp2
          go_ret
          exact ⟨ret_bool (by rw [rowP, rowOk_bad2 (by rw [Hx.out]; exact hlt) Hin.out]; rfl), hB.trans (hL2.trans hL1)⟩
        · have cH : Hid (∀ W, Later wc W → Calls Try.prog 58 #[.slice (some ⟨b, off, none⟩) k cap, .agg #[.int .i64 (xs[k]?.getD (0, 0)).1, .int .u64 (xs[k]?.getD (0, 0)).2]] W fun r w' => r = .returned (.bool false) ∧ Later W w') := fun W hW => by
            have := has_c (some ⟨b, off, none⟩) k cap (xs.take k) (xs[k]?.getD (0, 0)).1 (xs[k]?.getD (0, 0)).2 W (by omega) ((HR.out.take k hk).later (hB.trans (hL2.trans hW)))
            rwa [decide_eq_false (show ((xs[k]?.getD (0, 0)).1, (xs[k]?.getD (0, 0)).2) ∉ xs.take k from hin)] at this
          have Hin : Hid (xs[k]?.getD (0, 0) ∉ xs.take k) := hin
          clear hin
          go_wp2
          rw [hwc.out]
          refine region_draw (S := Later wc) (af := ?_) (by kernel_rfl) (by kernel_rfl) (fun _ h => h.drew) (Later.refl _) ?_ ?_
          rotate_left
          · repeat (first
              | (refine SeqL.val (v := ?_) (by rfl) (fun W hW => ?_) ?_; rotate_left; (· (go_simp; try with_reducible rfl)); try simp only [Act.put, List.setIfInBounds_toArray, List.set_cons_zero, List.set_cons_succ])
              | (refine SeqL.skip (by rfl) ?_; try simp only [Act.put, List.setIfInBounds_toArray, List.set_cons_zero, List.set_cons_succ])
              | (refine SeqL.call (v := ?_) (f := ?_) (args := ?_) (by rfl) (fun W hW => ?_) (fun W hW => ?_) ?_; rotate_left 3; (· (go_simp; first | with_reducible rfl | (refine ⟨?_, ?_⟩ <;> with_reducible rfl))); (· ((with_reducible refine (cE.out W).mono ?_); rintro e W1 ⟨rfl, hL1⟩; refine ⟨?_, hW.trans hL1⟩; with_reducible rfl)); try simp only [Act.put, List.setIfInBounds_toArray, List.set_cons_zero, List.set_cons_succ])
              | (refine SeqL.call (v := ?_) (f := ?_) (args := ?_) (by rfl) (fun W hW => ?_) (fun W hW => ?_) ?_; rotate_left 3; (· (go_simp; first | with_reducible rfl | (refine ⟨?_, ?_⟩ <;> with_reducible rfl))); (· ((with_reducible refine (cH.out W hW).mono ?_); rintro e W1 ⟨rfl, hL1⟩; refine ⟨?_, hW.trans hL1⟩; with_reducible rfl)); try simp only [Act.put, List.setIfInBounds_toArray, List.set_cons_zero, List.set_cons_succ])
              )
            exact SeqL.nil _
          intro w1 hL1
          go_wp2
          go_roundw
          case rel => exact ⟨k + 1, by omega, by go_num, take_snoc_all (fun x => !entryOk x) xs (0, 0) k (by rw [Hx.out]; exact hlt) Hne.out (by rw [HE.out]; rfl), nodup_snoc (by rw [Hx.out]; exact hlt) Hnd.out Hin.out, hB.trans (hL2.trans hL1)⟩
          case measure => simp [intOf]; omega
    · have Hok : Hid (rowOk xs = true) := rowOk_good (k := k) (by rw [Hx.out]; omega) Hne.out Hnd.out
      cases p
      · go_wp2
        all_goals go_ret
        all_goals exact ⟨ret_bool (by rw [rowP, Hok.out, Hx.out, Bool.eq_iff_iff]; simp), hB⟩
      · go_wp2
        all_goals go_ret
        all_goals exact ⟨ret_bool (by rw [rowP, Hok.out]; rfl), hB⟩
end Go.Proofs.Ytdheckfndldbmaa

namespace Go.Proofs.Ytdheckfndldbmaa
open Go.RowKit
attribute [local go_sem] merge_t merge_f merge_a merge_o

/-- a monitor as data -/
structure MonD where
  slabs : List E2
  pinned : List Bool
  has : List (List E2)
  bad : List W4
/-- a value reads as this monitor; no row is longer than B -/
def RMon (B : Nat) (w : World) (v : Value) (m : MonD) : Prop :=
  ∃ A0 n0 c0 A1 n1 c1 A2 n2 c2 A3 n3 c3, v = .agg #[.slice A0 n0 c0, .slice A1 n1 c1, .slice A2 n2 c2, .slice A3 n3 c3] ∧
    Rd 2 encE w A0 n0 m.slabs ∧ Rd 1 encB w A1 n1 m.pinned ∧ RdR w A2 n2 m.has ∧ Rd 4 encW w A3 n3 m.bad ∧
    (n0 ≤ B ∧ n1 ≤ B ∧ n2 ≤ B ∧ n3 ≤ B ∧ ∀ l ∈ m.has, l.length ≤ B) ∧
    (n0 ≤ c0 ∧ c0 ≤ 9223372036854775807 ∧ n1 ≤ c1 ∧ c1 ≤ 9223372036854775807 ∧ n2 ≤ c2 ∧ c2 ≤ 9223372036854775807 ∧ n3 ≤ c3 ∧ c3 ≤ 9223372036854775807)
theorem RMon.later {B : Nat} {w W : World} {v : Value} {m : MonD} (h : RMon B w v m) (hL : Later w W) : RMon B W v m := by
  obtain ⟨A0, n0, c0, A1, n1, c1, A2, n2, c2, A3, n3, c3, e, h0, h1, h2, h3, h4, h5⟩ := h
  exact ⟨A0, n0, c0, A1, n1, c1, A2, n2, c2, A3, n3, c3, e, h0.later hL, h1.later hL, h2.later hL, h3.later hL, h4, h5⟩

def ckT (xs : List E2) (e : E2) : Bool := arenaOk xs && meantD xs e
def tagD (xs : List E2) (e : E2) : Int := if ckT xs e then (xs[e.1.toNat]?.getD (0, 0)).1 else 0
theorem meant_lt {xs : List E2} {s g : Int} (h : meantD xs (s, g) = true) : 0 ≤ s ∧ s < xs.length ∧ (xs[s.toNat]?.getD (0, 0)).2 = g := by
  simpa only [meantD, Bool.and_eq_true, decide_eq_true_eq] using h

set_option maxRecDepth 100000 in
set_option maxHeartbeats 600000 in
theorem tag_c (A : Option Addr) (n cap : Nat) (xs : List E2) (s g : Int) (w : World) (hm : n ≤ 9223372036854775807) (hR : Rd 2 encE w A n xs) :
    Calls Try.prog 12 #[.agg #[.slice A n cap], .agg #[.int .i64 s, .int .u64 g]] w fun r w' => r = .returned (.tuple #[.int .i64 (tagD xs (s, g)), .bool (ckT xs (s, g))]) ∧ Later w w' := by
  have Hx : Hid (xs.length = n) := hR.1
  obtain ⟨wb, hwb, hL, hz, f1, f2⟩ := box2 w #[.slice A n cap] 27 #[.int .i64 s, .int .u64 g] 43
  have a0 := f1 0 (.slice A n cap) rfl
  have b0 := f2 0 (.int .i64 s) rfl
  have b1 := f2 1 (.int .u64 g) rfl
  clear f1 f2
  have HR : Hid (Rd 2 encE wb A n xs) := hR.later hL
  clear hR
  cases hA : arenaOk xs with
  | false =>
    have cA : Hid (∀ W, Later wb W → Calls Try.prog 34 #[.agg #[.slice A n cap]] W fun r w' => r = .returned (.int .i64 210) ∧ Later W w') := fun W hW => by
      have := acheck_c A n cap xs W hm (HR.out.later hW)
      rwa [show ckA xs = 210 by simp [ckA, hA]] at this
    have HT : Hid (ckT xs (s, g) = false) := by show _ = _; rw [ckT, hA]; rfl
    clear hA
    go_enter Try.func12, Try.ntmps12
    go_wp2_with fail
    rw [hwb.out]
    refine (cA.out _ (Later.refl _)).mono ?_
    rintro e w1 ⟨rfl, hL1⟩
    go_wp2
    go_ret2
    exact ⟨by rw [tagD, HT.out]; rfl, hL.trans hL1⟩
  | true =>
    have cA : Hid (∀ W, Later wb W → Calls Try.prog 34 #[.agg #[.slice A n cap]] W fun r w' => r = .returned (.int .i64 0) ∧ Later W w') := fun W hW => by
      have := acheck_c A n cap xs W hm (HR.out.later hW)
      rwa [show ckA xs = 0 by simp [ckA, hA]] at this
    cases hM : meantD xs (s, g) with
    | false =>
      have cM : Hid (∀ W, Later wb W → Calls Try.prog 35 #[.agg #[.slice A n cap], .agg #[.int .i64 s, .int .u64 g]] W fun r w' => r = .returned (.bool false) ∧ Later W w') := fun W hW => by
        have := meant_c A n cap xs s g W hm (HR.out.later hW)
        rwa [hM] at this
      have HT : Hid (ckT xs (s, g) = false) := by show _ = _; rw [ckT, hA, hM]; rfl
      clear hA hM
      go_enter Try.func12, Try.ntmps12
      go_wp2_with fail
      rw [hwb.out]
      refine (cA.out _ (Later.refl _)).mono ?_
      rintro e w1 ⟨rfl, hL1⟩
      go_wp2_with (go_at_call 35; refine (cM.out _ hL1).mono ?_; rintro e w2 ⟨rfl, hL2⟩)
      go_ret2
      exact ⟨by rw [tagD, HT.out]; rfl, hL.trans (hL1.trans hL2)⟩
    | true =>
      have cM : Hid (∀ W, Later wb W → Calls Try.prog 35 #[.agg #[.slice A n cap], .agg #[.int .i64 s, .int .u64 g]] W fun r w' => r = .returned (.bool true) ∧ Later W w') := fun W hW => by
        have := meant_c A n cap xs s g W hm (HR.out.later hW)
        rwa [hM] at this
      have HT : Hid (ckT xs (s, g) = true) := by show _ = _; rw [ckT, hA, hM]; rfl
      obtain ⟨h0, h1, h2⟩ := meant_lt hM
      rw [Hx.out] at h1
      clear hA hM h2
      obtain ⟨k, rfl⟩ := Int.eq_ofNat_of_zero_le h0
      have hk : k < n := by omega
      obtain ⟨b, off, rfl, d0, d1⟩ := HR.out.atE k hk
      clear d1
      go_enter Try.func12, Try.ntmps12
      go_wp2_with fail
      rw [hwb.out]
      refine (cA.out _ (Later.refl _)).mono ?_
      rintro e w1 ⟨rfl, hL1⟩
      go_wp2_with fail
      refine (cM.out _ hL1).mono ?_
      rintro e w2 ⟨rfl, hL2⟩
      have hL3 := hL1.trans hL2
      clear hL2
      go_wp2
      go_ret2
      exact ⟨by rw [tagD, HT.out]; rfl, hL.trans hL3⟩
end Go.Proofs.Ytdheckfndldbmaa

namespace Go.Proofs.Ytdheckfndldbmaa
open Go.RowKit
attribute [local go_sem] merge_t merge_f merge_a merge_o

/-- an entry is meant, and its slab has this tag -/
def tgd (xs : List E2) (e : E2) (t : Int) : Bool := meantD xs e && decide ((xs[e.1.toNat]?.getD (0, 0)).1 = t)

set_option maxRecDepth 100000 in
set_option maxHeartbeats 600000 in
theorem tagged_c (B : Nat) (v : Value) (m : MonD) (s g t : Int) (w : World) (hB : B ≤ 1000000) (hM : RMon B w v m) :
    Calls Try.prog 57 #[v, .agg #[.int .i64 s, .int .u64 g], .int .i64 t] w fun r w' => r = .returned (.bool (tgd m.slabs (s, g) t)) ∧ Later w w' := by
  obtain ⟨A0, n0, c0, A1, n1, c1, A2, n2, c2, A3, n3, c3, rfl, hR, -, -, -, hb, -⟩ := hM
  obtain ⟨wb, hwb, hL, hz, f1, f2⟩ := box2 w #[.slice A0 n0 c0, .slice A1 n1 c1, .slice A2 n2 c2, .slice A3 n3 c3] 32 #[.int .i64 s, .int .u64 g] 43
  have a0 := f1 0 (.slice A0 n0 c0) rfl
  have b0 := f2 0 (.int .i64 s) rfl
  have b1 := f2 1 (.int .u64 g) rfl
  clear f1 f2
  have HR : Hid (Rd 2 encE wb A0 n0 m.slabs) := hR.later hL
  have hn : n0 ≤ 1000000 := by omega
  have Hx : Hid (m.slabs.length = n0) := hR.1
  clear hR hb
  cases hM : meantD m.slabs (s, g) with
  | false =>
    have cM : Hid (∀ W, Later wb W → Calls Try.prog 78 #[.agg #[.slice A0 n0 c0], .agg #[.int .i64 s, .int .u64 g]] W fun r w' => r = .returned (.bool false) ∧ Later W w') := fun W hW => by
      have := rmeant_c A0 n0 c0 m.slabs s g W (by omega) (HR.out.later hW)
      rwa [hM] at this
    have HT : Hid (tgd m.slabs (s, g) t = false) := by show _ = _; rw [tgd, hM]; rfl
    clear hM
    go_enter Try.func57, Try.ntmps57
    go_wp2_with fail
    rw [hwb.out]
    refine (cM.out _ (Later.refl _)).mono ?_
    rintro e w1 ⟨rfl, hL1⟩
    go_wp2
    go_ret
    exact ⟨ret_bool HT.out.symm, hL.trans hL1⟩
  | true =>
    have cM : Hid (∀ W, Later wb W → Calls Try.prog 78 #[.agg #[.slice A0 n0 c0], .agg #[.int .i64 s, .int .u64 g]] W fun r w' => r = .returned (.bool true) ∧ Later W w') := fun W hW => by
      have := rmeant_c A0 n0 c0 m.slabs s g W (by omega) (HR.out.later hW)
      rwa [hM] at this
    obtain ⟨h0, h1, h2⟩ := meant_lt hM
    rw [Hx.out] at h1
    have HM : Hid (meantD m.slabs (s, g) = true) := hM
    clear hM h2
    obtain ⟨k, rfl⟩ := Int.eq_ofNat_of_zero_le h0
    have hk : k < n0 := by omega
    obtain ⟨b, off, rfl, d0, d1⟩ := HR.out.atE k hk
    clear d1
    go_enter Try.func57, Try.ntmps57
    go_wp2_with fail
    rw [hwb.out]
    refine (cM.out _ (Later.refl _)).mono ?_
    rintro e w1 ⟨rfl, hL1⟩
    go_wp2
    all_goals
      go_ret
      exact ⟨ret_bool (by rw [tgd, HM.out, Bool.eq_iff_iff]; simp), hL.trans hL1⟩

/-- is a touch good: the goroutine is pinned, has the entry, and its slab may be touched so -/
def goodD (m : MonD) (x : W4) : Bool :=
  (m.pinned[x.2.1.toNat]?.getD false && decide ((x.2.2.1, x.2.2.2) ∈ m.has[x.2.1.toNat]?.getD [])) && (tgd m.slabs (x.2.2.1, x.2.2.2) 1 || (decide (x.1 = 4) && tgd m.slabs (x.2.2.1, x.2.2.2) 2))

/-- what a call gives where its boolean is known -/
theorem as_bool {P : Program} {f : FuncId} {args : Array Value} {w : World} {b c : Bool} (h : Calls P f args w fun r w' => r = .returned (.bool b) ∧ Later w w') (e : b = c) : Calls P f args w fun r w' => r = .returned (.bool c) ∧ Later w w' := by rw [← e]; exact h

set_option maxRecDepth 100000 in
set_option maxHeartbeats 8000000 in
theorem rgood_c (B : Nat) (v : Value) (m : MonD) (kd : Int) (i : Nat) (s g : Int) (w : World) (hB : B ≤ 1000000) (hM : RMon B w v m) (hi' : i < m.pinned.length) (hi2' : i < m.has.length) :
    Calls Try.prog 24 #[v, .agg #[.int .i64 kd, .int .i64 i, .int .i64 s, .int .u64 g]] w fun r w' => r = .returned (.bool (goodD m (kd, (i : Int), s, g))) ∧ Later w w' := by
  have HM : Hid (RMon B w v m) := hM
  obtain ⟨A0, n0, c0, A1, n1, c1, A2, n2, c2, A3, n3, c3, rfl, hR0, hR1, hR2, -, hb, hc⟩ := hM
  obtain ⟨wb, hwb, hL, hz, f1, f2⟩ := box2 w #[.slice A0 n0 c0, .slice A1 n1 c1, .slice A2 n2 c2, .slice A3 n3 c3] 32 #[.int .i64 kd, .int .i64 i, .int .i64 s, .int .u64 g] 45
  have a0 := f1 0 (.slice A0 n0 c0) rfl
  have a1 := f1 1 (.slice A1 n1 c1) rfl
  have a2 := f1 2 (.slice A2 n2 c2) rfl
  have a3 := f1 3 (.slice A3 n3 c3) rfl
  have b0 := f2 0 (.int .i64 kd) rfl
  have b1 := f2 1 (.int .i64 i) rfl
  have b2 := f2 2 (.int .i64 s) rfl
  have b3 := f2 3 (.int .u64 g) rfl
  clear f1 f2
  have hi : i < n1 := by rw [← hR1.1]; exact hi'
  have hi2 : i < n2 := by rw [← hR2.1]; exact hi2'
  obtain ⟨p, po, rfl, x1⟩ := (hR1.later hL).atB i hi
  obtain ⟨q, qo, A', nr, c', rfl, x2, x3, x4, x5⟩ := (hR2.later hL).at i hi2
  have hl : nr ≤ 1000000 := by have := hb.2.2.2.2 _ (getD_mem (d := []) hi2'); have := x5.1; omega
  clear hi' hi2'
  have cT : Hid (∀ t W, Later wb W → Calls Try.prog 57 #[.agg #[.slice A0 n0 c0, .slice (some ⟨p, po, none⟩) n1 c1, .slice (some ⟨q, qo, none⟩) n2 c2, .slice A3 n3 c3], .agg #[.int .i64 s, .int .u64 g], .int .i64 t] W fun r w' => r = .returned (.bool (tgd m.slabs (s, g) t)) ∧ Later W w') := fun t W hW => tagged_c B _ m s g t W hB (HM.out.later (hL.trans hW))
  have cH : Hid (∀ W, Later wb W → Calls Try.prog 58 #[.slice A' nr c', .agg #[.int .i64 s, .int .u64 g]] W fun r w' => r = .returned (.bool (decide ((s, g) ∈ m.has[i]?.getD []))) ∧ Later W w') := fun W hW => has_c A' _ c' _ s g W (by omega) (x5.later hW)
  have hn1 : n1 ≤ 1000000 := by omega
  have hn2 : n2 ≤ 1000000 := by omega
  clear hR0 hR1 hR2 hb hc x3 x4 x5 HM
  obtain ⟨is, his⟩ : ∃ is, is = (tgd m.slabs (s, g) 1 || (decide (kd = 4) && tgd m.slabs (s, g) 2)) := ⟨_, rfl⟩
  have hfin : goodD m (kd, (i : Int), s, g) = ((m.pinned[i]?.getD false && decide ((s, g) ∈ m.has[i]?.getD [])) && is) := by rw [goodD, his]; simp
  have HF : Hid (goodD m (kd, (i : Int), s, g) = ((m.pinned[i]?.getD false && decide ((s, g) ∈ m.has[i]?.getD [])) && is)) := hfin
  have HI : Hid (is = (tgd m.slabs (s, g) 1 || (decide (kd = 4) && tgd m.slabs (s, g) 2))) := his
  clear hfin his
  -- the rest of the walk, whatever 'is' has come to
  go_enter Try.func24, Try.ntmps24
  go_wp2_with (go_at_call 57; first | (rw [hwb.out]; (with_reducible refine (cT.out 1 _ (Later.refl _)).mono ?_); rintro e w1 ⟨rfl, hL1⟩) | ((with_reducible refine (cT.out 2 _ hL1).mono ?_); rintro e w2 ⟨rfl, hL2⟩))
  all_goals
    cases hp : m.pinned[i]?.getD false with
    | false =>
      simp only [hp] at x1
      go_wp2_with fail
      refine region_draw (S := Later wb) (af := ?_) (by kernel_rfl) (by kernel_rfl) (fun _ h => h.drew) (by first | exact hL1.trans hL2 | exact hL1) ?_ ?_
      rotate_left
      · repeat (first
          | (refine SeqL.val (v := ?_) (by rfl) (fun W hW => ?_) ?_; rotate_left; (· (go_simp; try with_reducible rfl)); try simp only [Act.put, List.setIfInBounds_toArray, List.set_cons_zero, List.set_cons_succ])
          | (refine SeqL.skip (by rfl) ?_; try simp only [Act.put, List.setIfInBounds_toArray, List.set_cons_zero, List.set_cons_succ])
          )
        exact SeqL.nil _
      intro w9 hL9
      go_wp2
      go_ret
      exact ⟨ret_bool (by rw [HF.out, hp]; rfl), hL.trans hL9⟩
    | true =>
      simp only [hp] at x1
      cases hh : decide ((s, g) ∈ m.has[i]?.getD []) with
      | false =>
        have cH' : Hid (∀ W, Later wb W → Calls Try.prog 58 #[.slice A' nr c', .agg #[.int .i64 s, .int .u64 g]] W fun r w' => r = .returned (.bool false) ∧ Later W w') := fun W hW => as_bool (cH.out W hW) hh
        have HH : Hid (decide ((s, g) ∈ m.has[i]?.getD []) = false) := hh
        clear hh
        go_wp2_with fail
        refine region_draw (S := Later wb) (af := ?_) (by kernel_rfl) (by kernel_rfl) (fun _ h => h.drew) (by first | exact hL1.trans hL2 | exact hL1) ?_ ?_
        rotate_left
        · repeat (first
            | (refine SeqL.val (v := ?_) (by rfl) (fun W hW => ?_) ?_; rotate_left; (· (go_simp; try with_reducible rfl)); try simp only [Act.put, List.setIfInBounds_toArray, List.set_cons_zero, List.set_cons_succ])
            | (refine SeqL.skip (by rfl) ?_; try simp only [Act.put, List.setIfInBounds_toArray, List.set_cons_zero, List.set_cons_succ])
            | (refine SeqL.call (v := ?_) (f := ?_) (args := ?_) (by rfl) (fun W hW => ?_) (fun W hW => ?_) ?_; rotate_left 3; (· (go_simp; first | with_reducible rfl | (refine ⟨?_, ?_⟩ <;> with_reducible rfl))); (· ((with_reducible refine (cH'.out W hW).mono ?_); rintro e W1 ⟨rfl, hL1⟩; refine ⟨?_, hW.trans hL1⟩; with_reducible rfl)); try simp only [Act.put, List.setIfInBounds_toArray, List.set_cons_zero, List.set_cons_succ])
            )
          exact SeqL.nil _
        intro w9 hL9
        go_wp2
        go_ret
        exact ⟨ret_bool (by rw [HF.out, hp, HH.out]; rfl), hL.trans hL9⟩
      | true =>
        have cH' : Hid (∀ W, Later wb W → Calls Try.prog 58 #[.slice A' nr c', .agg #[.int .i64 s, .int .u64 g]] W fun r w' => r = .returned (.bool true) ∧ Later W w') := fun W hW => as_bool (cH.out W hW) hh
        have HH : Hid (decide ((s, g) ∈ m.has[i]?.getD []) = true) := hh
        clear hh
        go_wp2_with fail
        refine region_draw (S := Later wb) (af := ?_) (by kernel_rfl) (by kernel_rfl) (fun _ h => h.drew) (by first | exact hL1.trans hL2 | exact hL1) ?_ ?_
        rotate_left
        · repeat (first
            | (refine SeqL.val (v := ?_) (by rfl) (fun W hW => ?_) ?_; rotate_left; (· (go_simp; try with_reducible rfl)); try simp only [Act.put, List.setIfInBounds_toArray, List.set_cons_zero, List.set_cons_succ])
            | (refine SeqL.skip (by rfl) ?_; try simp only [Act.put, List.setIfInBounds_toArray, List.set_cons_zero, List.set_cons_succ])
            | (refine SeqL.call (v := ?_) (f := ?_) (args := ?_) (by rfl) (fun W hW => ?_) (fun W hW => ?_) ?_; rotate_left 3; (· (go_simp; first | with_reducible rfl | (refine ⟨?_, ?_⟩ <;> with_reducible rfl))); (· ((with_reducible refine (cH'.out W hW).mono ?_); rintro e W1 ⟨rfl, hL1⟩; refine ⟨?_, hW.trans hL1⟩; with_reducible rfl)); try simp only [Act.put, List.setIfInBounds_toArray, List.set_cons_zero, List.set_cons_succ])
            )
          exact SeqL.nil _
        intro w9 hL9
        go_wp2
        go_ret
        exact ⟨ret_bool (by rw [HF.out, hp, HH.out, HI.out]; simp_all), hL.trans hL9⟩
end Go.Proofs.Ytdheckfndldbmaa

namespace Go.Proofs.Ytdheckfndldbmaa
open Go.RowKit
attribute [local go_sem] merge_t merge_f merge_a merge_o

/-- who of the first k has the entry -/
def holdN (has : List (List E2)) (e : E2) (k : Nat) : List Int := ((List.range k).filter fun g => decide (e ∈ has[g]?.getD [])).map Int.ofNat
def holdersD (m : MonD) (e : E2) : List Int := holdN m.has e m.has.length
theorem holdN_len (has : List (List E2)) (e : E2) (k : Nat) : (holdN has e k).length ≤ k := by
  unfold holdN; rw [List.length_map]; exact Nat.le_trans (List.length_filter_le _ _) (by simp)
theorem holdN_yes {has : List (List E2)} {e : E2} {k : Nat} (h : decide (e ∈ has[k]?.getD []) = true) : holdN has e (k + 1) = holdN has e k ++ [(k : Int)] := by
  unfold holdN; rw [List.range_succ, List.filter_append]; simp only [List.filter_cons, h, if_true, List.filter_nil, List.map_append, List.map_cons, List.map_nil]; rfl
theorem holdN_no {has : List (List E2)} {e : E2} {k : Nat} (h : decide (e ∈ has[k]?.getD []) = false) : holdN has e (k + 1) = holdN has e k := by
  unfold holdN; rw [List.range_succ, List.filter_append]; simp only [List.filter_cons, h, List.filter_nil, Bool.false_eq_true, if_false, List.append_nil]
theorem infoI : (Try.prog.info? 3).map (fun i => (i.zero, i.size, i.bytes)) = some (some (.int .i64 0), 1, 8) := by kernel_rfl

/-- a fresh row of ints: what Holders gives -/
def OwnI (b : Nat) (w : World) (v : Value) (xs : List Int) : Prop := w.ownsRow b 3 1 v xs.length (flat encI xs)
theorem ownI_rd {b : Nat} {w : World} {v : Value} {xs : List Int} (h : OwnI b w v xs) : ∃ A c, v = .slice A xs.length c ∧ Rd 1 encI w A xs.length xs :=
  let ⟨A, c, e, _, _, r⟩ := rd_of_own enc_I rfl h; ⟨A, c, e, r⟩

set_option maxRecDepth 100000 in
set_option maxHeartbeats 1000000 in
theorem rholders_c (B : Nat) (v : Value) (m : MonD) (s g : Int) (w : World) (hB : B ≤ 1000000) (hM : RMon B w v m) :
    Calls Try.prog 25 #[v, .agg #[.int .i64 s, .int .u64 g]] w fun r w' => ∃ v, r = .returned v ∧ Later w w' ∧ OwnI w.heap.size w' v (holdersD m (s, g)) := by
  obtain ⟨A0, n0, c0, A1, n1, c1, A2, n2, c2, A3, n3, c3, rfl, -, -, hR2, -, hb, hc⟩ := hM
  obtain ⟨wb, hwb, hL, hz, f1, f2⟩ := box2 w #[.slice A0 n0 c0, .slice A1 n1 c1, .slice A2 n2 c2, .slice A3 n3 c3] 32 #[.int .i64 s, .int .u64 g] 43
  have a2 := f1 2 (.slice A2 n2 c2) rfl
  have b0 := f2 0 (.int .i64 s) rfl
  have b1 := f2 1 (.int .u64 g) rfl
  clear f1 f2
  have HR : Hid (RdR wb A2 n2 m.has) := hR2.later hL
  have Hx : Hid (m.has.length = n2) := hR2.1
  have Hb : Hid (∀ l ∈ m.has, l.length ≤ B) := hb.2.2.2.2
  have hn2 : n2 ≤ 1000000 := by omega
  clear hR2 hb hc
  go_enter Try.func25, Try.ntmps25
  go_wp2
  rw [hwb.out]
  go_loopw [5, 11] (fun t i wr => ∃ k : Nat, k ≤ n2 ∧ i = .int .i64 k ∧ Later wb wr ∧ OwnI wb.heap.size wr t (holdN m.has (s, g) k)) (fun _ i _ => n2 - (intOf i).toNat)
  case atStart => exact ⟨0, Nat.zero_le _, rfl, Later.refl _, World.ownsRow_nil _ _ _ _⟩
  case round =>
    obtain ⟨k, hk, rfl, hLw, hown⟩ := hrel
    have HO : Hid (OwnI wb.heap.size wr u5 (holdN m.has (s, g) k)) := hown
    clear hown
    by_cases hlt : k < n2
    · obtain ⟨q, qo, A', nr, c', rfl, x2, x3, x4, x5⟩ := HR.out.at k hlt
      have hl : nr ≤ 1000000 := by have := Hb.out _ (getD_mem (d := []) (k := k) (by rw [Hx.out]; exact hlt)); have := x5.1; omega
      have cH : Hid (∀ W, Later wb W → Calls Try.prog 58 #[.slice A' nr c', .agg #[.int .i64 s, .int .u64 g]] W fun r w' => r = .returned (.bool (decide ((s, g) ∈ m.has[k]?.getD []))) ∧ Later W w') := fun W hW => has_c A' _ c' _ s g W (by omega) (x5.later hW)
      clear x5
      cases hh : decide ((s, g) ∈ m.has[k]?.getD []) with
      | false =>
        have cH' : Hid (∀ W, Later wb W → Calls Try.prog 58 #[.slice A' nr c', .agg #[.int .i64 s, .int .u64 g]] W fun r w' => r = .returned (.bool false) ∧ Later W w') := fun W hW => as_bool (cH.out W hW) hh
        have HH : Hid (decide ((s, g) ∈ m.has[k]?.getD []) = false) := hh
        clear hh
        go_wp2_with (go_at_call 58; refine (cH'.out _ hLw).mono ?_; rintro e w1 ⟨rfl, hL1⟩)
        go_roundw
        case rel => exact ⟨k + 1, by omega, by go_num, hLw.trans hL1, by rw [holdN_no HH.out]; exact hL1.own HO.out⟩
        case measure => simp [intOf]; omega
      | true =>
        have cH' : Hid (∀ W, Later wb W → Calls Try.prog 58 #[.slice A' nr c', .agg #[.int .i64 s, .int .u64 g]] W fun r w' => r = .returned (.bool true) ∧ Later W w') := fun W hW => as_bool (cH.out W hW) hh
        have HH : Hid (decide ((s, g) ∈ m.has[k]?.getD []) = true) := hh
        clear hh
        go_wp2_with fail
        refine (cH'.out _ hLw).mono ?_
        rintro e w1 ⟨rfl, hL1⟩
        have HO1 : Hid (OwnI wb.heap.size w1 u5 (holdN m.has (s, g) k)) := hL1.own HO.out
        have hl2 := holdN_len m.has (s, g) k
        have hL2 := hLw.trans hL1
        have hsz := hL2.sz
        clear hL1
        go_wp2_with (at_builtin; refine append_elem rfl _ _ 58 3 (.int .i64 0) 8 wb.heap.size rfl enc_I Try.underlying58 infoI rfl u5 (holdN m.has (s, g) k) (k : Int) _ rfl rfl rfl HO1.out hsz (by omega) (by omega) ?_; intro v1 w2 ho2 hb2 _ _)
        have hL3 := later_below hL2 hb2 (Nat.le_refl _)
        have HO2 : Hid (OwnI wb.heap.size w2 v1 (holdN m.has (s, g) k ++ [(k : Int)])) := ho2
        clear ho2 hb2
        go_wp2
        go_roundw
        case rel => exact ⟨k + 1, by omega, by go_num, hL3, by rw [holdN_yes HH.out]; exact HO2.out⟩
        case measure => simp [intOf]; omega
    · go_wp2
      go_ret
      have e : k = n2 := by omega
      subst e
      exact ⟨_, rfl, hL.trans hLw, by have := HO.out; unfold OwnI at this; rw [holdersD, Hx.out]; exact own_base this hL.sz⟩
end Go.Proofs.Ytdheckfndldbmaa

namespace Go.Proofs.Ytdheckfndldbmaa
open Go.RowKit
attribute [local go_sem] merge_t merge_f merge_a merge_o

/-- nobody has it, and it is live or retired -/
def safeD (m : MonD) (e : E2) : Bool := decide ((holdersD m e).length = 0) && (tgd m.slabs e 1 || tgd m.slabs e 2)

set_option maxRecDepth 100000 in
set_option maxHeartbeats 1000000 in
theorem rsafe_c (B : Nat) (v : Value) (m : MonD) (s g : Int) (w : World) (hB : B ≤ 1000000) (hM : RMon B w v m) :
    Calls Try.prog 26 #[v, .agg #[.int .i64 s, .int .u64 g]] w fun r w' => r = .returned (.bool (safeD m (s, g))) ∧ Later w w' := by
  have HM : Hid (RMon B w v m) := hM
  obtain ⟨A0, n0, c0, A1, n1, c1, A2, n2, c2, A3, n3, c3, rfl, -, -, -, -, -, -⟩ := hM
  obtain ⟨wb, hwb, hL, hz, f1, f2⟩ := box2 w #[.slice A0 n0 c0, .slice A1 n1 c1, .slice A2 n2 c2, .slice A3 n3 c3] 32 #[.int .i64 s, .int .u64 g] 43
  have a0 := f1 0 (.slice A0 n0 c0) rfl
  have a1 := f1 1 (.slice A1 n1 c1) rfl
  have a2 := f1 2 (.slice A2 n2 c2) rfl
  have a3 := f1 3 (.slice A3 n3 c3) rfl
  have b0 := f2 0 (.int .i64 s) rfl
  have b1 := f2 1 (.int .u64 g) rfl
  clear f1 f2
  have cT : Hid (∀ t W, Later wb W → Calls Try.prog 57 #[.agg #[.slice A0 n0 c0, .slice A1 n1 c1, .slice A2 n2 c2, .slice A3 n3 c3], .agg #[.int .i64 s, .int .u64 g], .int .i64 t] W fun r w' => r = .returned (.bool (tgd m.slabs (s, g) t)) ∧ Later W w') := fun t W hW => tagged_c B _ m s g t W hB (HM.out.later (hL.trans hW))
  go_enter Try.func26, Try.ntmps26
  go_wp2_with fail
  rw [hwb.out]
  refine (rholders_c B _ m s g wb hB (HM.out.later hL)).mono ?_
  rintro e w1 ⟨vh, rfl, hL1, ho⟩
  obtain ⟨Ah, ch, rfl, -⟩ := ownI_rd ho
  clear ho
  obtain ⟨nh, hnh⟩ : ∃ nh, nh = (holdersD m (s, g)).length := ⟨_, rfl⟩
  have Hn : Hid (nh = (holdersD m (s, g)).length) := hnh
  rw [← hnh]
  clear hnh HM
  by_cases h0 : nh = 0
  · subst h0
    go_wp2_with (go_at_call 57; first | ((with_reducible refine (cT.out 1 _ hL1).mono ?_); rintro e w2 ⟨rfl, hL2⟩; replace hL2 := hL1.trans hL2) | ((with_reducible refine (cT.out 2 _ hL2).mono ?_); rintro e w3 ⟨rfl, hL3⟩; replace hL3 := hL2.trans hL3))
    all_goals go_ret
    · exact ⟨ret_bool (by rw [safeD, ← Hn.out]; simp_all), hL.trans hL2⟩
    · exact ⟨ret_bool (by rw [safeD, ← Hn.out]; simp_all), hL.trans hL3⟩
  · have hne : ((nh : Int) == 0) = false := by rw [beq_eq_false_iff_ne]; omega
    have H0 : Hid (¬ nh = 0) := h0
    clear h0
    go_wp2_with fail
    go_ret
    exact ⟨ret_bool (by rw [safeD, ← Hn.out, decide_eq_false H0.out]; rfl), hL.trans hL1⟩
end Go.Proofs.Ytdheckfndldbmaa
