/- The watcher's does. -/
import Derived.Test.YtdheckfndldbmaaM11
import Derived.Laws.EntriesVeiled
namespace Go.Proofs.Ytdheckfndldbmaa
open Go.RowKit
attribute [local go_sem] merge_t merge_f merge_a merge_o

theorem does_box (w : World) (b : Nat) (kd gi s g : Int) : ∃ wc, Hid ((w.alloc (.cells #[.int .i64 kd, .int .i64 gi, .int .i64 s, .int .u64 g] 45)).alloc (.cells #[.nilFunc, .func (.func 69) #[.pointer (some ⟨b, 0, none⟩)] #[], .func (.func 70) #[.pointer (some ⟨b, 0, none⟩)] #[], .func (.func 71) #[.pointer (some ⟨b, 0, none⟩)] #[], .func (.func 72) #[.pointer (some ⟨b, 0, none⟩)] #[], .func (.func 72) #[.pointer (some ⟨b, 0, none⟩)] #[], .func (.func 73) #[.pointer (some ⟨b, 0, none⟩)] #[], .func (.func 74) #[.pointer (some ⟨b, 0, none⟩)] #[], .func (.func 75) #[.pointer (some ⟨b, 0, none⟩)] #[]] 104) = wc) ∧ Later w wc ∧
    (∀ i v, #[Value.int .i64 kd, .int .i64 gi, .int .i64 s, .int .u64 g][i]? = some v → ∀ W, Later wc W → W.cell? ⟨w.heap.size, i, none⟩ = some v) ∧
    (∀ i v, #[Value.nilFunc, .func (.func 69) #[.pointer (some ⟨b, 0, none⟩)] #[], .func (.func 70) #[.pointer (some ⟨b, 0, none⟩)] #[], .func (.func 71) #[.pointer (some ⟨b, 0, none⟩)] #[], .func (.func 72) #[.pointer (some ⟨b, 0, none⟩)] #[], .func (.func 72) #[.pointer (some ⟨b, 0, none⟩)] #[], .func (.func 73) #[.pointer (some ⟨b, 0, none⟩)] #[], .func (.func 74) #[.pointer (some ⟨b, 0, none⟩)] #[], .func (.func 75) #[.pointer (some ⟨b, 0, none⟩)] #[]][i]? = some v → ∀ W, Later wc W → W.cell? ⟨w.heap.size + 1, i, none⟩ = some v) := by
  refine ⟨_, rfl, ((Later.refl _).alloc _).alloc _, fun i v h W hW => hW.of_cell ?_, fun i v h W hW => hW.of_cell ?_⟩
  · exact ((Box.new w _ _).alloc _).cell h
  · have := Box.new (w.alloc (.cells #[.int .i64 kd, .int .i64 gi, .int .i64 s, .int .u64 g] 45)) #[.nilFunc, .func (.func 69) #[.pointer (some ⟨b, 0, none⟩)] #[], .func (.func 70) #[.pointer (some ⟨b, 0, none⟩)] #[], .func (.func 71) #[.pointer (some ⟨b, 0, none⟩)] #[], .func (.func 72) #[.pointer (some ⟨b, 0, none⟩)] #[], .func (.func 72) #[.pointer (some ⟨b, 0, none⟩)] #[], .func (.func 73) #[.pointer (some ⟨b, 0, none⟩)] #[], .func (.func 74) #[.pointer (some ⟨b, 0, none⟩)] #[], .func (.func 75) #[.pointer (some ⟨b, 0, none⟩)] #[]] 104
    rw [World.size_alloc] at this
    exact this.cell h

set_option maxRecDepth 100000 in
set_option maxHeartbeats 8000000 in
theorem wdoes1_c (b : Nat) (x : WX) (m : MonD) (tk : List E2) (s g : Int) (i : Nat) (w : World) (hg : x.g ≤ 8) (hi : i < x.g) (h : WSt w b x m tk) (res : Except Int (MonD × List E2))
    (cM : ∀ V, Later w V → Calls Try.prog 69 #[.pointer (some ⟨b, 0, none⟩), .agg #[.int .i64 1, .int .i64 i, .int .i64 s, .int .u64 g]] V (MPost b x V res)) :
    Calls Try.prog 39 #[.pointer (some ⟨b, 0, none⟩), .agg #[.int .i64 1, .int .i64 i, .int .i64 s, .int .u64 g]] w (MPost b x w res) := by
  have hmf : ∀ (fn : Fn) (first cap : Array Value) (w : World), (Instr.makeFunc fn first cap).run Try.prog w = .ok (.func fn first cap) w := fun _ _ _ _ => rfl
  obtain ⟨wb, hwb, hL, f1, f2⟩ := does_box w b 1 i s g
  have e0 := f1 0 (.int .i64 1) rfl
  have e1 := f1 1 (.int .i64 i) rfl
  have e2 := f1 2 (.int .i64 s) rfl
  have e3 := f1 3 (.int .u64 g) rfl
  have a0 := f2 1 (.func (.func 69) #[.pointer (some ⟨b, 0, none⟩)] #[]) rfl
  have p1 := (h.later hL).field.2.1
  have CM := Lib.hid cM
  clear f1 f2 h cM
  go_enter Try.func39, Try.ntmps39
  go_wp2_with fail
  rw [hwb.out]
  refine (mneed_yes _ _).mono ?_
  rintro e w9 ⟨rfl, rfl⟩
  go_wp2
  refine region_ghost (S := Later wb) (af := ?_) 14 gF0 gV0 gE0 gU0 (by kernel_rfl) (by kernel_rfl) (by kernel_rfl) (by decide) (by kernel_rfl) (fun _ h => h.drew) (Later.refl _) (fun _ _ h h2 => h.trans h2) gL0 gO0 ?_ ?_
  rotate_left
  · intro t
    repeat (first
      | (refine SeqT.val (v := ?_) (by rfl) (by rfl) (fun W hW => ?_) ?_; rotate_left; (· (go_simp; try with_reducible rfl)); try simp only [Act.put, List.setIfInBounds_toArray, List.set_cons_zero, List.set_cons_succ])
      | (refine SeqT.skip (by rfl) (by rfl) ?_; try simp only [Act.put, List.setIfInBounds_toArray, List.set_cons_zero, List.set_cons_succ])
      )
    exact SeqT.nil _
  intro t W hW hV
  refine wpList_is (l' := [_]) rfl ?_
  clear hV
  go_wp2_with (go_at_call 64; (with_reducible refine (mneed_yes _ _).mono ?_); rintro e w9 ⟨rfl, rfl⟩)
  have hW2 := hW
  clear hW
  refine region_ghost (S := Later wb) (af := ?_) 5 gF0 gV0 gE0 gU0 (by kernel_rfl) (by kernel_rfl) (by kernel_rfl) (by decide) (by kernel_rfl) (fun _ h => h.drew) hW2 (fun _ _ h h2 => h.trans h2) gL0 gO0 ?_ ?_
  rotate_left
  · intro t
    repeat (first
      | (refine SeqT.val (v := ?_) (by rfl) (by rfl) (fun W hW => ?_) ?_; rotate_left; (· (go_simp; try with_reducible rfl)); try simp only [Act.put, List.setIfInBounds_toArray, List.set_cons_zero, List.set_cons_succ])
      | (refine SeqT.skip (by rfl) (by rfl) ?_; try simp only [Act.put, List.setIfInBounds_toArray, List.set_cons_zero, List.set_cons_succ])
      )
    exact SeqT.nil _
  intro t W hW hV
  refine wpList_is (l' := [_]) rfl ?_
  clear hV
  go_wp2_with fail
  refine (CM.out _ (hL.trans hW)).mono ?_
  rintro r w7 hM
  have hfin := MPost.trans (Chg.of_later (hL.trans hW)) (fun k hk => .inl hk) hM
  rcases hM.mk' with rfl | ⟨k, rfl⟩
  · go_wp2
    refine bodyPost_end (results_none rfl _ _ _) rfl ?_
    exact hfin
  · exact ⟨rfl, hfin⟩

set_option maxRecDepth 100000 in
set_option maxHeartbeats 8000000 in
theorem wdoes2_c (b : Nat) (x : WX) (m : MonD) (tk : List E2) (s g : Int) (i : Nat) (w : World) (hg : x.g ≤ 8) (hi : i < x.g) (h : WSt w b x m tk) (res : Except Int (MonD × List E2))
    (cM : ∀ V, Later w V → Calls Try.prog 70 #[.pointer (some ⟨b, 0, none⟩), .agg #[.int .i64 2, .int .i64 i, .int .i64 s, .int .u64 g]] V (MPost b x V res)) :
    Calls Try.prog 39 #[.pointer (some ⟨b, 0, none⟩), .agg #[.int .i64 2, .int .i64 i, .int .i64 s, .int .u64 g]] w (MPost b x w res) := by
  have hmf : ∀ (fn : Fn) (first cap : Array Value) (w : World), (Instr.makeFunc fn first cap).run Try.prog w = .ok (.func fn first cap) w := fun _ _ _ _ => rfl
  obtain ⟨wb, hwb, hL, f1, f2⟩ := does_box w b 2 i s g
  have e0 := f1 0 (.int .i64 2) rfl
  have e1 := f1 1 (.int .i64 i) rfl
  have e2 := f1 2 (.int .i64 s) rfl
  have e3 := f1 3 (.int .u64 g) rfl
  have a0 := f2 2 (.func (.func 70) #[.pointer (some ⟨b, 0, none⟩)] #[]) rfl
  have p1 := (h.later hL).field.2.1
  have CM := Lib.hid cM
  clear f1 f2 h cM
  go_enter Try.func39, Try.ntmps39
  go_wp2_with fail
  rw [hwb.out]
  refine (mneed_yes _ _).mono ?_
  rintro e w9 ⟨rfl, rfl⟩
  go_wp2
  refine region_ghost (S := Later wb) (af := ?_) 14 gF0 gV0 gE0 gU0 (by kernel_rfl) (by kernel_rfl) (by kernel_rfl) (by decide) (by kernel_rfl) (fun _ h => h.drew) (Later.refl _) (fun _ _ h h2 => h.trans h2) gL0 gO0 ?_ ?_
  rotate_left
  · intro t
    repeat (first
      | (refine SeqT.val (v := ?_) (by rfl) (by rfl) (fun W hW => ?_) ?_; rotate_left; (· (go_simp; try with_reducible rfl)); try simp only [Act.put, List.setIfInBounds_toArray, List.set_cons_zero, List.set_cons_succ])
      | (refine SeqT.skip (by rfl) (by rfl) ?_; try simp only [Act.put, List.setIfInBounds_toArray, List.set_cons_zero, List.set_cons_succ])
      )
    exact SeqT.nil _
  intro t W hW hV
  refine wpList_is (l' := [_]) rfl ?_
  clear hV
  go_wp2_with (go_at_call 64; (with_reducible refine (mneed_yes _ _).mono ?_); rintro e w9 ⟨rfl, rfl⟩)
  have hW2 := hW
  clear hW
  refine region_ghost (S := Later wb) (af := ?_) 5 gF0 gV0 gE0 gU0 (by kernel_rfl) (by kernel_rfl) (by kernel_rfl) (by decide) (by kernel_rfl) (fun _ h => h.drew) hW2 (fun _ _ h h2 => h.trans h2) gL0 gO0 ?_ ?_
  rotate_left
  · intro t
    repeat (first
      | (refine SeqT.val (v := ?_) (by rfl) (by rfl) (fun W hW => ?_) ?_; rotate_left; (· (go_simp; try with_reducible rfl)); try simp only [Act.put, List.setIfInBounds_toArray, List.set_cons_zero, List.set_cons_succ])
      | (refine SeqT.skip (by rfl) (by rfl) ?_; try simp only [Act.put, List.setIfInBounds_toArray, List.set_cons_zero, List.set_cons_succ])
      )
    exact SeqT.nil _
  intro t W hW hV
  refine wpList_is (l' := [_]) rfl ?_
  clear hV
  go_wp2_with fail
  refine (CM.out _ (hL.trans hW)).mono ?_
  rintro r w7 hM
  have hfin := MPost.trans (Chg.of_later (hL.trans hW)) (fun k hk => .inl hk) hM
  rcases hM.mk' with rfl | ⟨k, rfl⟩
  · go_wp2
    refine bodyPost_end (results_none rfl _ _ _) rfl ?_
    exact hfin
  · exact ⟨rfl, hfin⟩

set_option maxRecDepth 100000 in
set_option maxHeartbeats 8000000 in
theorem wdoes3_c (b : Nat) (x : WX) (m : MonD) (tk : List E2) (s g : Int) (i : Nat) (w : World) (hg : x.g ≤ 8) (hi : i < x.g) (hE : entryOk (s, g) = true) (h : WSt w b x m tk) (res : Except Int (MonD × List E2))
    (cM : ∀ V, Later w V → Calls Try.prog 71 #[.pointer (some ⟨b, 0, none⟩), .agg #[.int .i64 3, .int .i64 i, .int .i64 s, .int .u64 g]] V (MPost b x V res)) :
    Calls Try.prog 39 #[.pointer (some ⟨b, 0, none⟩), .agg #[.int .i64 3, .int .i64 i, .int .i64 s, .int .u64 g]] w (MPost b x w res) := by
  have hmf : ∀ (fn : Fn) (first cap : Array Value) (w : World), (Instr.makeFunc fn first cap).run Try.prog w = .ok (.func fn first cap) w := fun _ _ _ _ => rfl
  obtain ⟨wb, hwb, hL, f1, f2⟩ := does_box w b 3 i s g
  have e0 := f1 0 (.int .i64 3) rfl
  have e1 := f1 1 (.int .i64 i) rfl
  have e2 := f1 2 (.int .i64 s) rfl
  have e3 := f1 3 (.int .u64 g) rfl
  have a0 := f2 3 (.func (.func 71) #[.pointer (some ⟨b, 0, none⟩)] #[]) rfl
  have p1 := (h.later hL).field.2.1
  have CM := Lib.hid cM
  clear f1 f2 h cM
  have cE : Hid (∀ V, Calls Try.prog 44 #[.agg #[.int .i64 s, .int .u64 g]] V fun r w' => r = .returned (.bool true) ∧ Later V w') := fun V => as_bool (mentry_c s g V) hE
  clear hE
  go_enter Try.func39, Try.ntmps39
  go_wp2_with fail
  rw [hwb.out]
  refine (mneed_yes _ _).mono ?_
  rintro e w9 ⟨rfl, rfl⟩
  go_wp2
  refine region_ghost (S := Later wb) (af := ?_) 14 gF0 gV0 gE0 gU0 (by kernel_rfl) (by kernel_rfl) (by kernel_rfl) (by decide) (by kernel_rfl) (fun _ h => h.drew) (Later.refl _) (fun _ _ h h2 => h.trans h2) gL0 gO0 ?_ ?_
  rotate_left
  · intro t
    repeat (first
      | (refine SeqT.val (v := ?_) (by rfl) (by rfl) (fun W hW => ?_) ?_; rotate_left; (· (go_simp; try with_reducible rfl)); try simp only [Act.put, List.setIfInBounds_toArray, List.set_cons_zero, List.set_cons_succ])
      | (refine SeqT.skip (by rfl) (by rfl) ?_; try simp only [Act.put, List.setIfInBounds_toArray, List.set_cons_zero, List.set_cons_succ])
      )
    exact SeqT.nil _
  intro t W hW hV
  refine wpList_is (l' := [_]) rfl ?_
  clear hV
  go_wp2_with (first
    | (go_at_call 44; (with_reducible refine (cE.out _).mono ?_); rintro e w5 ⟨rfl, hL5⟩)
    | (go_at_call 64; (with_reducible refine (mneed_yes _ _).mono ?_); rintro e w9 ⟨rfl, rfl⟩))
  have hW2 := hW.trans hL5
  clear hW
  refine region_ghost (S := Later wb) (af := ?_) 5 gF0 gV0 gE0 gU0 (by kernel_rfl) (by kernel_rfl) (by kernel_rfl) (by decide) (by kernel_rfl) (fun _ h => h.drew) hW2 (fun _ _ h h2 => h.trans h2) gL0 gO0 ?_ ?_
  rotate_left
  · intro t
    repeat (first
      | (refine SeqT.val (v := ?_) (by rfl) (by rfl) (fun W hW => ?_) ?_; rotate_left; (· (go_simp; try with_reducible rfl)); try simp only [Act.put, List.setIfInBounds_toArray, List.set_cons_zero, List.set_cons_succ])
      | (refine SeqT.skip (by rfl) (by rfl) ?_; try simp only [Act.put, List.setIfInBounds_toArray, List.set_cons_zero, List.set_cons_succ])
      )
    exact SeqT.nil _
  intro t W hW hV
  refine wpList_is (l' := [_]) rfl ?_
  clear hV
  go_wp2_with fail
  refine (CM.out _ (hL.trans hW)).mono ?_
  rintro r w7 hM
  have hfin := MPost.trans (Chg.of_later (hL.trans hW)) (fun k hk => .inl hk) hM
  rcases hM.mk' with rfl | ⟨k, rfl⟩
  · go_wp2
    refine bodyPost_end (results_none rfl _ _ _) rfl ?_
    exact hfin
  · exact ⟨rfl, hfin⟩

set_option maxRecDepth 100000 in
set_option maxHeartbeats 8000000 in
theorem wdoes4_c (b : Nat) (x : WX) (m : MonD) (tk : List E2) (s g : Int) (i : Nat) (w : World) (hg : x.g ≤ 8) (hi : i < x.g) (hE : entryOk (s, g) = true) (h : WSt w b x m tk) (res : Except Int (MonD × List E2))
    (cM : ∀ V, Later w V → Calls Try.prog 72 #[.pointer (some ⟨b, 0, none⟩), .agg #[.int .i64 4, .int .i64 i, .int .i64 s, .int .u64 g]] V (MPost b x V res)) :
    Calls Try.prog 39 #[.pointer (some ⟨b, 0, none⟩), .agg #[.int .i64 4, .int .i64 i, .int .i64 s, .int .u64 g]] w (MPost b x w res) := by
  have hmf : ∀ (fn : Fn) (first cap : Array Value) (w : World), (Instr.makeFunc fn first cap).run Try.prog w = .ok (.func fn first cap) w := fun _ _ _ _ => rfl
  obtain ⟨wb, hwb, hL, f1, f2⟩ := does_box w b 4 i s g
  have e0 := f1 0 (.int .i64 4) rfl
  have e1 := f1 1 (.int .i64 i) rfl
  have e2 := f1 2 (.int .i64 s) rfl
  have e3 := f1 3 (.int .u64 g) rfl
  have a0 := f2 4 (.func (.func 72) #[.pointer (some ⟨b, 0, none⟩)] #[]) rfl
  have p1 := (h.later hL).field.2.1
  have CM := Lib.hid cM
  clear f1 f2 h cM
  have cE : Hid (∀ V, Calls Try.prog 44 #[.agg #[.int .i64 s, .int .u64 g]] V fun r w' => r = .returned (.bool true) ∧ Later V w') := fun V => as_bool (mentry_c s g V) hE
  clear hE
  go_enter Try.func39, Try.ntmps39
  go_wp2_with fail
  rw [hwb.out]
  refine (mneed_yes _ _).mono ?_
  rintro e w9 ⟨rfl, rfl⟩
  go_wp2
  refine region_ghost (S := Later wb) (af := ?_) 14 gF0 gV0 gE0 gU0 (by kernel_rfl) (by kernel_rfl) (by kernel_rfl) (by decide) (by kernel_rfl) (fun _ h => h.drew) (Later.refl _) (fun _ _ h h2 => h.trans h2) gL0 gO0 ?_ ?_
  rotate_left
  · intro t
    repeat (first
      | (refine SeqT.val (v := ?_) (by rfl) (by rfl) (fun W hW => ?_) ?_; rotate_left; (· (go_simp; try with_reducible rfl)); try simp only [Act.put, List.setIfInBounds_toArray, List.set_cons_zero, List.set_cons_succ])
      | (refine SeqT.skip (by rfl) (by rfl) ?_; try simp only [Act.put, List.setIfInBounds_toArray, List.set_cons_zero, List.set_cons_succ])
      )
    exact SeqT.nil _
  intro t W hW hV
  refine wpList_is (l' := [_]) rfl ?_
  clear hV
  go_wp2_with (first
    | (go_at_call 44; (with_reducible refine (cE.out _).mono ?_); rintro e w5 ⟨rfl, hL5⟩)
    | (go_at_call 64; (with_reducible refine (mneed_yes _ _).mono ?_); rintro e w9 ⟨rfl, rfl⟩))
  have hW2 := hW.trans hL5
  clear hW
  refine region_ghost (S := Later wb) (af := ?_) 5 gF0 gV0 gE0 gU0 (by kernel_rfl) (by kernel_rfl) (by kernel_rfl) (by decide) (by kernel_rfl) (fun _ h => h.drew) hW2 (fun _ _ h h2 => h.trans h2) gL0 gO0 ?_ ?_
  rotate_left
  · intro t
    repeat (first
      | (refine SeqT.val (v := ?_) (by rfl) (by rfl) (fun W hW => ?_) ?_; rotate_left; (· (go_simp; try with_reducible rfl)); try simp only [Act.put, List.setIfInBounds_toArray, List.set_cons_zero, List.set_cons_succ])
      | (refine SeqT.skip (by rfl) (by rfl) ?_; try simp only [Act.put, List.setIfInBounds_toArray, List.set_cons_zero, List.set_cons_succ])
      )
    exact SeqT.nil _
  intro t W hW hV
  refine wpList_is (l' := [_]) rfl ?_
  clear hV
  go_wp2_with fail
  refine (CM.out _ (hL.trans hW)).mono ?_
  rintro r w7 hM
  have hfin := MPost.trans (Chg.of_later (hL.trans hW)) (fun k hk => .inl hk) hM
  rcases hM.mk' with rfl | ⟨k, rfl⟩
  · go_wp2
    refine bodyPost_end (results_none rfl _ _ _) rfl ?_
    exact hfin
  · exact ⟨rfl, hfin⟩

set_option maxRecDepth 100000 in
set_option maxHeartbeats 8000000 in
theorem wdoes5_c (b : Nat) (x : WX) (m : MonD) (tk : List E2) (s g : Int) (i : Nat) (w : World) (hg : x.g ≤ 8) (hi : i < x.g) (hE : entryOk (s, g) = true) (h : WSt w b x m tk) (res : Except Int (MonD × List E2))
    (cM : ∀ V, Later w V → Calls Try.prog 72 #[.pointer (some ⟨b, 0, none⟩), .agg #[.int .i64 5, .int .i64 i, .int .i64 s, .int .u64 g]] V (MPost b x V res)) :
    Calls Try.prog 39 #[.pointer (some ⟨b, 0, none⟩), .agg #[.int .i64 5, .int .i64 i, .int .i64 s, .int .u64 g]] w (MPost b x w res) := by
  have hmf : ∀ (fn : Fn) (first cap : Array Value) (w : World), (Instr.makeFunc fn first cap).run Try.prog w = .ok (.func fn first cap) w := fun _ _ _ _ => rfl
  obtain ⟨wb, hwb, hL, f1, f2⟩ := does_box w b 5 i s g
  have e0 := f1 0 (.int .i64 5) rfl
  have e1 := f1 1 (.int .i64 i) rfl
  have e2 := f1 2 (.int .i64 s) rfl
  have e3 := f1 3 (.int .u64 g) rfl
  have a0 := f2 5 (.func (.func 72) #[.pointer (some ⟨b, 0, none⟩)] #[]) rfl
  have p1 := (h.later hL).field.2.1
  have CM := Lib.hid cM
  clear f1 f2 h cM
  have cE : Hid (∀ V, Calls Try.prog 44 #[.agg #[.int .i64 s, .int .u64 g]] V fun r w' => r = .returned (.bool true) ∧ Later V w') := fun V => as_bool (mentry_c s g V) hE
  clear hE
  go_enter Try.func39, Try.ntmps39
  go_wp2_with fail
  rw [hwb.out]
  refine (mneed_yes _ _).mono ?_
  rintro e w9 ⟨rfl, rfl⟩
  go_wp2
  refine region_ghost (S := Later wb) (af := ?_) 14 gF0 gV0 gE0 gU0 (by kernel_rfl) (by kernel_rfl) (by kernel_rfl) (by decide) (by kernel_rfl) (fun _ h => h.drew) (Later.refl _) (fun _ _ h h2 => h.trans h2) gL0 gO0 ?_ ?_
  rotate_left
  · intro t
    repeat (first
      | (refine SeqT.val (v := ?_) (by rfl) (by rfl) (fun W hW => ?_) ?_; rotate_left; (· (go_simp; try with_reducible rfl)); try simp only [Act.put, List.setIfInBounds_toArray, List.set_cons_zero, List.set_cons_succ])
      | (refine SeqT.skip (by rfl) (by rfl) ?_; try simp only [Act.put, List.setIfInBounds_toArray, List.set_cons_zero, List.set_cons_succ])
      )
    exact SeqT.nil _
  intro t W hW hV
  refine wpList_is (l' := [_]) rfl ?_
  clear hV
  go_wp2_with (first
    | (go_at_call 44; (with_reducible refine (cE.out _).mono ?_); rintro e w5 ⟨rfl, hL5⟩)
    | (go_at_call 64; (with_reducible refine (mneed_yes _ _).mono ?_); rintro e w9 ⟨rfl, rfl⟩))
  have hW2 := hW.trans hL5
  clear hW
  refine region_ghost (S := Later wb) (af := ?_) 5 gF0 gV0 gE0 gU0 (by kernel_rfl) (by kernel_rfl) (by kernel_rfl) (by decide) (by kernel_rfl) (fun _ h => h.drew) hW2 (fun _ _ h h2 => h.trans h2) gL0 gO0 ?_ ?_
  rotate_left
  · intro t
    repeat (first
      | (refine SeqT.val (v := ?_) (by rfl) (by rfl) (fun W hW => ?_) ?_; rotate_left; (· (go_simp; try with_reducible rfl)); try simp only [Act.put, List.setIfInBounds_toArray, List.set_cons_zero, List.set_cons_succ])
      | (refine SeqT.skip (by rfl) (by rfl) ?_; try simp only [Act.put, List.setIfInBounds_toArray, List.set_cons_zero, List.set_cons_succ])
      )
    exact SeqT.nil _
  intro t W hW hV
  refine wpList_is (l' := [_]) rfl ?_
  clear hV
  go_wp2_with fail
  refine (CM.out _ (hL.trans hW)).mono ?_
  rintro r w7 hM
  have hfin := MPost.trans (Chg.of_later (hL.trans hW)) (fun k hk => .inl hk) hM
  rcases hM.mk' with rfl | ⟨k, rfl⟩
  · go_wp2
    refine bodyPost_end (results_none rfl _ _ _) rfl ?_
    exact hfin
  · exact ⟨rfl, hfin⟩

set_option maxRecDepth 100000 in
set_option maxHeartbeats 8000000 in
theorem wdoes6_c (b : Nat) (x : WX) (m : MonD) (tk : List E2) (s g : Int) (i : Nat) (w : World) (hg : x.g ≤ 8) (hi : i < x.g) (h : WSt w b x m tk) (res : Except Int (MonD × List E2))
    (cM : ∀ V, Later w V → Calls Try.prog 73 #[.pointer (some ⟨b, 0, none⟩), .agg #[.int .i64 6, .int .i64 i, .int .i64 s, .int .u64 g]] V (MPost b x V res)) :
    Calls Try.prog 39 #[.pointer (some ⟨b, 0, none⟩), .agg #[.int .i64 6, .int .i64 i, .int .i64 s, .int .u64 g]] w (MPost b x w res) := by
  have hmf : ∀ (fn : Fn) (first cap : Array Value) (w : World), (Instr.makeFunc fn first cap).run Try.prog w = .ok (.func fn first cap) w := fun _ _ _ _ => rfl
  obtain ⟨wb, hwb, hL, f1, f2⟩ := does_box w b 6 i s g
  have e0 := f1 0 (.int .i64 6) rfl
  have e1 := f1 1 (.int .i64 i) rfl
  have e2 := f1 2 (.int .i64 s) rfl
  have e3 := f1 3 (.int .u64 g) rfl
  have a0 := f2 6 (.func (.func 73) #[.pointer (some ⟨b, 0, none⟩)] #[]) rfl
  have p1 := (h.later hL).field.2.1
  have CM := Lib.hid cM
  clear f1 f2 h cM
  go_enter Try.func39, Try.ntmps39
  go_wp2_with fail
  rw [hwb.out]
  refine (mneed_yes _ _).mono ?_
  rintro e w9 ⟨rfl, rfl⟩
  go_wp2
  refine region_ghost (S := Later wb) (af := ?_) 14 gF0 gV0 gE0 gU0 (by kernel_rfl) (by kernel_rfl) (by kernel_rfl) (by decide) (by kernel_rfl) (fun _ h => h.drew) (Later.refl _) (fun _ _ h h2 => h.trans h2) gL0 gO0 ?_ ?_
  rotate_left
  · intro t
    repeat (first
      | (refine SeqT.val (v := ?_) (by rfl) (by rfl) (fun W hW => ?_) ?_; rotate_left; (· (go_simp; try with_reducible rfl)); try simp only [Act.put, List.setIfInBounds_toArray, List.set_cons_zero, List.set_cons_succ])
      | (refine SeqT.skip (by rfl) (by rfl) ?_; try simp only [Act.put, List.setIfInBounds_toArray, List.set_cons_zero, List.set_cons_succ])
      )
    exact SeqT.nil _
  intro t W hW hV
  refine wpList_is (l' := [_]) rfl ?_
  clear hV
  go_wp2_with (go_at_call 64; (with_reducible refine (mneed_yes _ _).mono ?_); rintro e w9 ⟨rfl, rfl⟩)
  have hW2 := hW
  clear hW
  refine region_ghost (S := Later wb) (af := ?_) 5 gF0 gV0 gE0 gU0 (by kernel_rfl) (by kernel_rfl) (by kernel_rfl) (by decide) (by kernel_rfl) (fun _ h => h.drew) hW2 (fun _ _ h h2 => h.trans h2) gL0 gO0 ?_ ?_
  rotate_left
  · intro t
    repeat (first
      | (refine SeqT.val (v := ?_) (by rfl) (by rfl) (fun W hW => ?_) ?_; rotate_left; (· (go_simp; try with_reducible rfl)); try simp only [Act.put, List.setIfInBounds_toArray, List.set_cons_zero, List.set_cons_succ])
      | (refine SeqT.skip (by rfl) (by rfl) ?_; try simp only [Act.put, List.setIfInBounds_toArray, List.set_cons_zero, List.set_cons_succ])
      )
    exact SeqT.nil _
  intro t W hW hV
  refine wpList_is (l' := [_]) rfl ?_
  clear hV
  go_wp2_with fail
  refine (CM.out _ (hL.trans hW)).mono ?_
  rintro r w7 hM
  have hfin := MPost.trans (Chg.of_later (hL.trans hW)) (fun k hk => .inl hk) hM
  rcases hM.mk' with rfl | ⟨k, rfl⟩
  · go_wp2
    refine bodyPost_end (results_none rfl _ _ _) rfl ?_
    exact hfin
  · exact ⟨rfl, hfin⟩

set_option maxRecDepth 100000 in
set_option maxHeartbeats 8000000 in
theorem wdoes7_c (b : Nat) (x : WX) (m : MonD) (tk : List E2) (s g : Int) (i : Nat) (w : World) (hg : x.g ≤ 8) (hi : i < x.g) (hE : entryOk (s, g) = true) (h : WSt w b x m tk) (res : Except Int (MonD × List E2))
    (cM : ∀ V, Later w V → Calls Try.prog 74 #[.pointer (some ⟨b, 0, none⟩), .agg #[.int .i64 7, .int .i64 i, .int .i64 s, .int .u64 g]] V (MPost b x V res)) :
    Calls Try.prog 39 #[.pointer (some ⟨b, 0, none⟩), .agg #[.int .i64 7, .int .i64 i, .int .i64 s, .int .u64 g]] w (MPost b x w res) := by
  have hmf : ∀ (fn : Fn) (first cap : Array Value) (w : World), (Instr.makeFunc fn first cap).run Try.prog w = .ok (.func fn first cap) w := fun _ _ _ _ => rfl
  obtain ⟨wb, hwb, hL, f1, f2⟩ := does_box w b 7 i s g
  have e0 := f1 0 (.int .i64 7) rfl
  have e1 := f1 1 (.int .i64 i) rfl
  have e2 := f1 2 (.int .i64 s) rfl
  have e3 := f1 3 (.int .u64 g) rfl
  have a0 := f2 7 (.func (.func 74) #[.pointer (some ⟨b, 0, none⟩)] #[]) rfl
  have p1 := (h.later hL).field.2.1
  have CM := Lib.hid cM
  clear f1 f2 h cM
  have cE : Hid (∀ V, Calls Try.prog 44 #[.agg #[.int .i64 s, .int .u64 g]] V fun r w' => r = .returned (.bool true) ∧ Later V w') := fun V => as_bool (mentry_c s g V) hE
  clear hE
  go_enter Try.func39, Try.ntmps39
  go_wp2_with fail
  rw [hwb.out]
  refine (mneed_yes _ _).mono ?_
  rintro e w9 ⟨rfl, rfl⟩
  go_wp2
  refine region_ghost (S := Later wb) (af := ?_) 14 gF0 gV0 gE0 gU0 (by kernel_rfl) (by kernel_rfl) (by kernel_rfl) (by decide) (by kernel_rfl) (fun _ h => h.drew) (Later.refl _) (fun _ _ h h2 => h.trans h2) gL0 gO0 ?_ ?_
  rotate_left
  · intro t
    repeat (first
      | (refine SeqT.val (v := ?_) (by rfl) (by rfl) (fun W hW => ?_) ?_; rotate_left; (· (go_simp; try with_reducible rfl)); try simp only [Act.put, List.setIfInBounds_toArray, List.set_cons_zero, List.set_cons_succ])
      | (refine SeqT.skip (by rfl) (by rfl) ?_; try simp only [Act.put, List.setIfInBounds_toArray, List.set_cons_zero, List.set_cons_succ])
      )
    exact SeqT.nil _
  intro t W hW hV
  refine wpList_is (l' := [_]) rfl ?_
  clear hV
  go_wp2_with (first
    | (go_at_call 44; (with_reducible refine (cE.out _).mono ?_); rintro e w5 ⟨rfl, hL5⟩)
    | (go_at_call 64; (with_reducible refine (mneed_yes _ _).mono ?_); rintro e w9 ⟨rfl, rfl⟩))
  have hW2 := hW.trans hL5
  clear hW
  refine region_ghost (S := Later wb) (af := ?_) 5 gF0 gV0 gE0 gU0 (by kernel_rfl) (by kernel_rfl) (by kernel_rfl) (by decide) (by kernel_rfl) (fun _ h => h.drew) hW2 (fun _ _ h h2 => h.trans h2) gL0 gO0 ?_ ?_
  rotate_left
  · intro t
    repeat (first
      | (refine SeqT.val (v := ?_) (by rfl) (by rfl) (fun W hW => ?_) ?_; rotate_left; (· (go_simp; try with_reducible rfl)); try simp only [Act.put, List.setIfInBounds_toArray, List.set_cons_zero, List.set_cons_succ])
      | (refine SeqT.skip (by rfl) (by rfl) ?_; try simp only [Act.put, List.setIfInBounds_toArray, List.set_cons_zero, List.set_cons_succ])
      )
    exact SeqT.nil _
  intro t W hW hV
  refine wpList_is (l' := [_]) rfl ?_
  clear hV
  go_wp2_with fail
  refine (CM.out _ (hL.trans hW)).mono ?_
  rintro r w7 hM
  have hfin := MPost.trans (Chg.of_later (hL.trans hW)) (fun k hk => .inl hk) hM
  rcases hM.mk' with rfl | ⟨k, rfl⟩
  · go_wp2
    refine bodyPost_end (results_none rfl _ _ _) rfl ?_
    exact hfin
  · exact ⟨rfl, hfin⟩

set_option maxRecDepth 100000 in
set_option maxHeartbeats 8000000 in
theorem wdoes8_c (b : Nat) (x : WX) (m : MonD) (tk : List E2) (s g : Int) (i : Nat) (w : World) (hg : x.g ≤ 8) (hi : i < x.g) (hE : entryOk (s, g) = true) (h : WSt w b x m tk) (res : Except Int (MonD × List E2))
    (cM : ∀ V, Later w V → Calls Try.prog 75 #[.pointer (some ⟨b, 0, none⟩), .agg #[.int .i64 8, .int .i64 i, .int .i64 s, .int .u64 g]] V (MPost b x V res)) :
    Calls Try.prog 39 #[.pointer (some ⟨b, 0, none⟩), .agg #[.int .i64 8, .int .i64 i, .int .i64 s, .int .u64 g]] w (MPost b x w res) := by
  have hmf : ∀ (fn : Fn) (first cap : Array Value) (w : World), (Instr.makeFunc fn first cap).run Try.prog w = .ok (.func fn first cap) w := fun _ _ _ _ => rfl
  obtain ⟨wb, hwb, hL, f1, f2⟩ := does_box w b 8 i s g
  have e0 := f1 0 (.int .i64 8) rfl
  have e1 := f1 1 (.int .i64 i) rfl
  have e2 := f1 2 (.int .i64 s) rfl
  have e3 := f1 3 (.int .u64 g) rfl
  have a0 := f2 8 (.func (.func 75) #[.pointer (some ⟨b, 0, none⟩)] #[]) rfl
  have p1 := (h.later hL).field.2.1
  have CM := Lib.hid cM
  clear f1 f2 h cM
  have cE : Hid (∀ V, Calls Try.prog 44 #[.agg #[.int .i64 s, .int .u64 g]] V fun r w' => r = .returned (.bool true) ∧ Later V w') := fun V => as_bool (mentry_c s g V) hE
  clear hE
  go_enter Try.func39, Try.ntmps39
  go_wp2_with fail
  rw [hwb.out]
  refine (mneed_yes _ _).mono ?_
  rintro e w9 ⟨rfl, rfl⟩
  go_wp2
  refine region_ghost (S := Later wb) (af := ?_) 14 gF0 gV0 gE0 gU0 (by kernel_rfl) (by kernel_rfl) (by kernel_rfl) (by decide) (by kernel_rfl) (fun _ h => h.drew) (Later.refl _) (fun _ _ h h2 => h.trans h2) gL0 gO0 ?_ ?_
  rotate_left
  · intro t
    repeat (first
      | (refine SeqT.val (v := ?_) (by rfl) (by rfl) (fun W hW => ?_) ?_; rotate_left; (· (go_simp; try with_reducible rfl)); try simp only [Act.put, List.setIfInBounds_toArray, List.set_cons_zero, List.set_cons_succ])
      | (refine SeqT.skip (by rfl) (by rfl) ?_; try simp only [Act.put, List.setIfInBounds_toArray, List.set_cons_zero, List.set_cons_succ])
      )
    exact SeqT.nil _
  intro t W hW hV
  refine wpList_is (l' := [_]) rfl ?_
  clear hV
  go_wp2_with (first
    | (go_at_call 44; (with_reducible refine (cE.out _).mono ?_); rintro e w5 ⟨rfl, hL5⟩)
    | (go_at_call 64; (with_reducible refine (mneed_yes _ _).mono ?_); rintro e w9 ⟨rfl, rfl⟩))
  have hW2 := hW.trans hL5
  clear hW
  refine region_ghost (S := Later wb) (af := ?_) 5 gF0 gV0 gE0 gU0 (by kernel_rfl) (by kernel_rfl) (by kernel_rfl) (by decide) (by kernel_rfl) (fun _ h => h.drew) hW2 (fun _ _ h h2 => h.trans h2) gL0 gO0 ?_ ?_
  rotate_left
  · intro t
    repeat (first
      | (refine SeqT.val (v := ?_) (by rfl) (by rfl) (fun W hW => ?_) ?_; rotate_left; (· (go_simp; try with_reducible rfl)); try simp only [Act.put, List.setIfInBounds_toArray, List.set_cons_zero, List.set_cons_succ])
      | (refine SeqT.skip (by rfl) (by rfl) ?_; try simp only [Act.put, List.setIfInBounds_toArray, List.set_cons_zero, List.set_cons_succ])
      )
    exact SeqT.nil _
  intro t W hW hV
  refine wpList_is (l' := [_]) rfl ?_
  clear hV
  go_wp2_with fail
  refine (CM.out _ (hL.trans hW)).mono ?_
  rintro r w7 hM
  have hfin := MPost.trans (Chg.of_later (hL.trans hW)) (fun k hk => .inl hk) hM
  rcases hM.mk' with rfl | ⟨k, rfl⟩
  · go_wp2
    refine bodyPost_end (results_none rfl _ _ _) rfl ?_
    exact hfin
  · exact ⟨rfl, hfin⟩
end Go.Proofs.Ytdheckfndldbmaa
