/- The watcher's methods: touch, slabs. | The watcher's methods: slabs, retire, give. | The watcher's take. -/
import Derived.Test.YtdheckfndldbmaaM10
namespace Go.Proofs.Ytdheckfndldbmaa
open Go.RowKit
attribute [local go_sem] merge_t merge_f merge_a merge_o

def touchM (m : MonD) (y : W4) : MonD := if goodD m y = false ∧ m.bad.length < 16 then { m with bad := m.bad ++ [y] } else m
def touchDD (m : MonD) (tk : List E2) (i : Nat) (y : W4) : Except Int (MonD × List E2) := if m.pinned[i]?.getD false then .ok (touchM m y, tk) else .error 4
theorem WX.fp_bad (x : WX) (b : Nat) (v : Value) {k : Nat} (h : ({ x with bv := v } : WX).fp b k) : x.fp b k ∨ v.ownBlock = some k := by
  rcases h with h | h | h | h | h | h
  · exact .inl (.inl h)
  · exact .inl (.inr (.inl h))
  · exact .inl (.inr (.inr (.inl h)))
  · exact .inl (.inr (.inr (.inr (.inl h))))
  · exact .inr h
  · exact .inl (.inr (.inr (.inr (.inr (.inr h)))))

set_option maxRecDepth 100000 in
set_option maxHeartbeats 8000000 in
theorem wtouch_c (N b : Nat) (x : WX) (m : MonD) (tk : List E2) (kd s g : Int) (i : Nat) (w : World) (hN : N ≤ 900000) (hB : WB N x m tk) (hi : i < x.g) (h : WSt w b x m tk) :
    Calls Try.prog 72 #[.pointer (some ⟨b, 0, none⟩), .agg #[.int .i64 kd, .int .i64 i, .int .i64 s, .int .u64 g]] w (MPost b x w (touchDD m tk i (kd, (i : Int), s, g))) := by
  obtain ⟨wb, hwb, hL, hz, f1, -⟩ := box1 w #[.int .i64 kd, .int .i64 i, .int .i64 s, .int .u64 g] 45
  have e0 := f1 0 (.int .i64 kd) rfl
  have e1 := f1 1 (.int .i64 i) rfl
  have e2 := f1 2 (.int .i64 s) rfl
  have e3 := f1 3 (.int .u64 g) rfl
  have hb := h.later hL
  have cP : Hid (∀ V, Later wb V → Calls Try.prog 81 #[.pointer (some ⟨b, 0, none⟩), .agg #[.int .i64 kd, .int .i64 i, .int .i64 s, .int .u64 g]] V fun r w' => r = (if m.pinned[i]?.getD false then .returned (.tuple #[]) else .panicked (errChain 4)) ∧ Later V w') := fun V hV => wpinned_c b x m tk kd s g i V hB.1 hi (hb.later hV)
  have HB := Lib.hid hb
  have hbl : Hid (∀ k, x.bv.ownBlock = some k → k < w.heap.size) := fun k hk => (h.ba.lt k hk).2
  clear f1 h hb
  cases hpk : m.pinned[i]?.getD false with
  | false =>
    have HP : Hid (touchDD m tk i (kd, (i : Int), s, g) = .error 4) := by show _ = _; simp [touchDD, hpk]
    have HK := Lib.hid hpk
    clear hpk
    go_enter Try.func72, Try.ntmps72
    go_wp2_with fail
    rw [hwb.out]
    refine (cP.out _ (Later.refl _)).mono ?_
    rw [HK.out]
    rintro e w1 ⟨rfl, hL1⟩
    exact ⟨rfl, Chg.of_later (hL.trans hL1), by rw [HP.out]⟩
  | true =>
    have HP : Hid (touchDD m tk i (kd, (i : Int), s, g) = .ok (touchM m (kd, (i : Int), s, g), tk)) := by show _ = _; simp [touchDD, hpk]
    have HK := Lib.hid hpk
    clear hpk
    obtain ⟨A3, n3, c3, hbv, hbn, hn3, hc3, hM⟩ := HB.out.rmon hB
    have hn16 : n3 ≤ 16 := by rw [← hbn]; exact hB.2.1
    obtain ⟨gd, hgd⟩ : ∃ gd, goodD m (kd, (i : Int), s, g) = gd := ⟨_, rfl⟩
    have cG : Hid (∀ V, Later wb V → Calls Try.prog 41 #[.agg #[.slice (some ⟨x.D, 0, none⟩) x.n x.n, .slice (some ⟨x.P, 0, none⟩) x.g x.g, .slice (some ⟨x.H, 0, none⟩) x.g x.hc, .slice A3 n3 c3], .agg #[.int .i64 kd, .int .i64 i, .int .i64 s, .int .u64 g]] V fun r w' => r = .returned (.bool gd) ∧ Later V w') := fun V hV =>
      as_bool (mgood_c (N + 128) _ m kd i s g V (by omega) (hM.later hV) hB.2.2.1 (by rw [HB.out.pn]; exact hi) (by rw [HB.out.hn]; exact hi)) hgd
    have HG := Lib.hid hgd
    have HBV := Lib.hid hbv
    have HBN := Lib.hid hbn
    clear hgd hM hbv hbn
    go_enter Try.func72, Try.ntmps72
    go_wp2_with fail
    rw [hwb.out]
    refine (cP.out _ (Later.refl _)).mono ?_
    rw [HK.out]
    rintro e w1 ⟨rfl, hL1⟩
    have h1 := HB.out.later hL1
    obtain ⟨p0, p1, p2, p3, -⟩ := h1.field
    rw [HBV.out] at p3
    have q0 := celw hL1 e0
    have q1 := celw hL1 e1
    have q2 := celw hL1 e2
    have q3 := celw hL1 e3
    have H1 := Lib.hid h1
    clear h1
    go_wp2
    by_cases hlt : gd = false ∧ n3 < 16
    · obtain ⟨rfl, hlt⟩ := hlt
      have hdl : decide ((n3 : Int) < 16) = true := decide_eq_true (by omega)
      have HT : Hid (touchM m (kd, (i : Int), s, g) = { m with bad := m.bad ++ [(kd, (i : Int), s, g)] }) := by show _ = _; rw [touchM, if_pos ⟨HG.out, by rw [HBN.out]; exact hlt⟩]
      refine region_draw (S := Later w1) (af := ?_) (by kernel_rfl) (by kernel_rfl) (fun _ h => h.drew) (Later.refl _) ?_ ?_
      rotate_left
      · repeat (first
          | (refine SeqL.val (v := ?_) (by rfl) (fun W hW => ?_) ?_; rotate_left; (· (go_simp; try with_reducible rfl)); try simp only [Act.put, List.setIfInBounds_toArray, List.set_cons_zero, List.set_cons_succ])
          | (refine SeqL.skip (by rfl) ?_; try simp only [Act.put, List.setIfInBounds_toArray, List.set_cons_zero, List.set_cons_succ])
          | (refine SeqL.call (v := ?_) (f := ?_) (args := ?_) (by rfl) (fun W hW => ?_) (fun W hW => ?_) ?_; rotate_left 3; (· (go_simp; first | with_reducible rfl | (refine ⟨?_, ?_⟩ <;> with_reducible rfl))); (· ((with_reducible refine (cG.out _ (hL1.trans hW)).mono ?_); rintro e W1 ⟨rfl, hL1⟩; refine ⟨?_, hW.trans hL1⟩; with_reducible rfl)); try simp only [Act.put, List.setIfInBounds_toArray, List.set_cons_zero, List.set_cons_succ])
          )
        exact SeqL.nil _
      intro w2 hL2
      have h2 := H1.out.later hL2
      have hba : w2.ownsRow 0 45 4 (.slice A3 n3 c3) n3 (flat encW m.bad) := by have := h2.ba; rwa [HBV.out, HBN.out] at this
      have hltA : ∀ k, (Value.slice A3 n3 c3).ownBlock = some k → k < w2.heap.size := fun k hk => (hba.lt k hk).2
      have hbne : ∀ k, (Value.slice A3 n3 c3).ownBlock = some k → x.bv.ownBlock = some k := fun k hk => by rw [HBV.out]; exact hk
      have hbw : Box wb w.heap.size #[.int .i64 kd, .int .i64 i, .int .i64 s, .int .u64 g] 45 := by rw [← hwb.out]; exact Box.new _ _ _
      have hnw : ¬ (Value.slice A3 n3 c3).ownBlock = some w.heap.size := fun e => by
        have := hbl.out _ (hbne _ e); omega
      have r0 : ∀ V, Chg (fun k => (Value.slice A3 n3 c3).ownBlock = some k) w2 V → V.cell? ⟨b, 3, none⟩ = some (.slice A3 n3 c3) := celS (fun e => (h2.bad_ne (hbne _ e)).1 rfl) (by have := h2.bx.cell (i := 3) rfl; rw [HBV.out] at this; exact this)
      have hbw2 := hbw.later (hL1.trans hL2)
      have r1 : ∀ V, Chg (fun k => (Value.slice A3 n3 c3).ownBlock = some k) w2 V → V.cell? ⟨w.heap.size, 0, none⟩ = some (.int .i64 kd) := celS hnw (hbw2.cell (i := 0) rfl)
      have r2 : ∀ V, Chg (fun k => (Value.slice A3 n3 c3).ownBlock = some k) w2 V → V.cell? ⟨w.heap.size, 1, none⟩ = some (.int .i64 i) := celS hnw (hbw2.cell (i := 1) rfl)
      have r3 : ∀ V, Chg (fun k => (Value.slice A3 n3 c3).ownBlock = some k) w2 V → V.cell? ⟨w.heap.size, 2, none⟩ = some (.int .i64 s) := celS hnw (hbw2.cell (i := 2) rfl)
      have r4 : ∀ V, Chg (fun k => (Value.slice A3 n3 c3).ownBlock = some k) w2 V → V.cell? ⟨w.heap.size, 3, none⟩ = some (.int .u64 g) := celS hnw (hbw2.cell (i := 3) rfl)
      have HBA := Lib.hid hba
      have H2 := Lib.hid h2
      clear hba h2 hbw hbw2 p0 p1 p2 p3 q0 q1 q2 q3 e0 e1 e2 e3
      go_wp2
      refine Y.region_full (S := (Chg (fun k => (Value.slice A3 n3 c3).ownBlock = some k) w2)) (R := (apR 8 (.slice A3 n3 c3))) (N := (apN 8 45 4 (.slice A3 n3 c3) n3 (flat encW m.bad))) (Pn := (fun _ _ => False)) (af := ?_) 9 (apF 8 n3) (apV 7 8 45 4 w2 (.slice A3 n3 c3) n3 (flat encW m.bad) [.int .i64 kd, .int .i64 i, .int .i64 s, .int .u64 g]) (apE 7 8) gU0 (by kernel_rfl) (by kernel_rfl) (by kernel_rfl) (by decide) (by kernel_rfl) (fun _ h => h.drew) (Chg.refl _ _) apSL (apVL hltA) apNL apLoc (fun _ _ _ => ((Later.refl _).drew).own HBA.out) ?_ (fun _ _ _ _ h => h.elim) ?_
      rotate_left
      · intro t
        repeat (first
          | (refine Y.SeqT.val (v := ?_) (by rfl) (by rfl) (fun W hW => ?_) ?_; rotate_left; (· (go_simp; try with_reducible rfl)); try simp only [Act.put, List.setIfInBounds_toArray, List.set_cons_zero, List.set_cons_succ])
          | (refine Y.SeqT.skip (by rfl) (by rfl) ?_; try simp only [Act.put, List.setIfInBounds_toArray, List.set_cons_zero, List.set_cons_succ])
          | (refine Y.SeqT.make (.slice (some ⟨(t 7).n, 0, none⟩) 1 1) (by rfl) (by rfl) (by rfl) (fun W hW hN hd => ?_) ?_; (· (exact ⟨⟨none, W.heap.size, 0, undef⟩, W.alloc (.cells #[.int .i64 kd, .int .i64 i, .int .i64 s, .int .u64 g] 45), by go_simp; first | rfl | exact ⟨rfl, rfl⟩, apMake hW.size, (Later.refl W).alloc _⟩)); try simp only [Act.put, List.setIfInBounds_toArray, List.set_cons_zero, List.set_cons_succ])
          | (refine Y.SeqT.make (.slice (t 8).A (n3 + 1) (t 8).c) (by rfl) (by rfl) (by rfl) (fun W hW hN hd => ?_) ?_; (· (exact apAppend (by decide) hW.size _ _ (.tmp 28) (.tmp 30) _ (.agg #[.int .i64 0, .int .i64 0, .int .i64 0, .int .u64 0]) 32 rfl rfl rfl Try.underlying30 infoW rfl (by decide) rfl (by intro u hu; simp only [List.mem_cons, List.not_mem_nil, or_false] at hu; rcases hu with rfl | rfl | rfl | rfl <;> rfl) (by unfold maxLen; omega) (by omega) hN (hd 7 rfl ⟨{ on := 7, ground := Ground.data }, by simp, rfl, rfl⟩))); try simp only [Act.put, List.setIfInBounds_toArray, List.set_cons_zero, List.set_cons_succ])
          )
        exact Y.SeqT.nil _
      intro t W hW hV
      refine wpList_is (l' := [_, _, _, _]) rfl ?_
      obtain ⟨ho9, hw9⟩ := apGet (by decide) (hV 8 (by decide) rfl)
      generalize (t 8).A = A9 at *
      generalize (t 8).c = c9 at *
      clear hV
      have hgr : w2.grownBy W x.bv.ownBlock := by rw [HBV.out]; exact hW.grownBy fun k _ e => e
      have hlen9 : (m.bad ++ [(kd, (i : Int), s, g)]).length = n3 + 1 := by rw [List.length_append, HBN.out]; rfl
      obtain ⟨hS, hC⟩ := H2.out.setBad (w1 := W) (v := .slice A9 (n3 + 1) c9) (r := m.bad ++ [(kd, (i : Int), s, g)]) hgr (by rw [hlen9, flat_append, flat_one]; exact ho9)
      have HF := Lib.hid (show _ ∧ _ from ⟨hS, hC⟩)
      have s0 : W.cell? ⟨b, 3, none⟩ = some (.slice A3 n3 c3) := r0 _ hW
      have hbxW := H2.out.bx.chg hW (fun e => (H2.out.bad_ne (hbne _ e)).1 rfl)
      have sf := hbxW.frozen
      clear hS hC ho9 hgr hbxW
      go_wp2
      refine bodyPost_end (results_none rfl _ _ _) rfl ?_
      refine ⟨(Chg.of_later (hL.trans (hL1.trans hL2))).trans' HF.out.2 (fun k _ e => ?_), ?_⟩
      · rcases e with e | e
        · subst e; exact x.fp_b _
        · exact .inr (.inr (.inr (.inr (.inl e))))
      · rw [HP.out, HT.out]
        refine ⟨rfl, _, HF.out.1, fun k hk => ?_⟩
        rcases x.fp_bad b _ hk with e | e
        · exact .inl e
        · rcases hw9 k e with e | e
          · exact .inl (.inr (.inr (.inr (.inr (.inl (hbne _ e))))))
          · exact .inr (by have := (hL.trans (hL1.trans hL2)).sz; omega)
    · have HT : Hid (touchM m (kd, (i : Int), s, g) = m) := by show _ = _; rw [touchM, if_neg (by rw [HG.out, HBN.out]; exact hlt)]
      have fin : ∀ w2, Later w1 w2 → MPost b x w (touchDD m tk i (kd, (i : Int), s, g)) (.returned (.tuple #[])) w2 := fun w2 hL2 => by
        refine ⟨Chg.of_later (hL.trans (hL1.trans hL2)), ?_⟩
        rw [HP.out, HT.out]
        exact ⟨rfl, x, H1.out.later hL2, fun _ h => .inl h⟩
      have FIN := Lib.hid fin
      clear fin
      cases gd with
      | true =>
        clear hlt
        refine region_draw (S := Later w1) (af := ?_) (by kernel_rfl) (by kernel_rfl) (fun _ h => h.drew) (Later.refl _) ?_ ?_
        rotate_left
        · repeat (first
            | (refine SeqL.val (v := ?_) (by rfl) (fun W hW => ?_) ?_; rotate_left; (· (go_simp; try with_reducible rfl)); try simp only [Act.put, List.setIfInBounds_toArray, List.set_cons_zero, List.set_cons_succ])
            | (refine SeqL.skip (by rfl) ?_; try simp only [Act.put, List.setIfInBounds_toArray, List.set_cons_zero, List.set_cons_succ])
            | (refine SeqL.call (v := ?_) (f := ?_) (args := ?_) (by rfl) (fun W hW => ?_) (fun W hW => ?_) ?_; rotate_left 3; (· (go_simp; first | with_reducible rfl | (refine ⟨?_, ?_⟩ <;> with_reducible rfl))); (· ((with_reducible refine (cG.out _ (hL1.trans hW)).mono ?_); rintro e W1 ⟨rfl, hL1⟩; refine ⟨?_, hW.trans hL1⟩; with_reducible rfl)); try simp only [Act.put, List.setIfInBounds_toArray, List.set_cons_zero, List.set_cons_succ])
            )
          exact SeqL.nil _
        intro w2 hL2
        go_wp2
        refine bodyPost_end (results_none rfl _ _ _) rfl ?_
        exact FIN.out _ hL2
      | false =>
        have hlt' : ¬ n3 < 16 := fun h => hlt ⟨rfl, h⟩
        have hdl : decide ((n3 : Int) < 16) = false := decide_eq_false (by omega)
        clear hlt
        refine region_draw (S := Later w1) (af := ?_) (by kernel_rfl) (by kernel_rfl) (fun _ h => h.drew) (Later.refl _) ?_ ?_
        rotate_left
        · repeat (first
            | (refine SeqL.val (v := ?_) (by rfl) (fun W hW => ?_) ?_; rotate_left; (· (go_simp; try with_reducible rfl)); try simp only [Act.put, List.setIfInBounds_toArray, List.set_cons_zero, List.set_cons_succ])
            | (refine SeqL.skip (by rfl) ?_; try simp only [Act.put, List.setIfInBounds_toArray, List.set_cons_zero, List.set_cons_succ])
            | (refine SeqL.call (v := ?_) (f := ?_) (args := ?_) (by rfl) (fun W hW => ?_) (fun W hW => ?_) ?_; rotate_left 3; (· (go_simp; first | with_reducible rfl | (refine ⟨?_, ?_⟩ <;> with_reducible rfl))); (· ((with_reducible refine (cG.out _ (hL1.trans hW)).mono ?_); rintro e W1 ⟨rfl, hL1⟩; refine ⟨?_, hW.trans hL1⟩; with_reducible rfl)); try simp only [Act.put, List.setIfInBounds_toArray, List.set_cons_zero, List.set_cons_succ])
            )
          exact SeqL.nil _
        intro w2 hL2
        go_wp2
        refine bodyPost_end (results_none rfl _ _ _) rfl ?_
        exact FIN.out _ hL2
end Go.Proofs.Ytdheckfndldbmaa

namespace Go.Proofs.Ytdheckfndldbmaa
open Go.RowKit
attribute [local go_sem] merge_t merge_f merge_a merge_o

theorem MPost.trans {b : Nat} {x x1 : WX} {w w1 w' : World} {res : Except Int (MonD × List E2)} {r : Ending} (hC : Chg (x.fp b) w w1) (hf : ∀ i, x1.fp b i → x.fp b i ∨ w.heap.size ≤ i) (h : MPost b x1 w1 res r w') : MPost b x w res r w' := by
  refine ⟨hC.trans' h.1 (fun i hi hx => (hf i hx).resolve_right (by omega)), ?_⟩
  have h2 := h.2
  cases res with
  | error k => exact h2
  | ok s =>
    obtain ⟨e, x', h3, h4⟩ := h2
    refine ⟨e, x', h3, fun i hi => ?_⟩
    rcases h4 i hi with h | h
    · exact hf i h
    · exact .inr (by have := hC.size; omega)

set_option maxRecDepth 100000 in
set_option maxHeartbeats 2000000 in
theorem wslabs_ok (b : Nat) (x : WX) (m : MonD) (tk : List E2) (D n : Nat) (ys : List E2) (w : World) (h : WSt w b x m tk) (hD : Box w D (flat encE ys).toArray 47) (hn : ys.length = n) :
    Calls Try.prog 83 #[.pointer (some ⟨b, 0, none⟩), .agg #[.slice (some ⟨D, 0, none⟩) n n], .int .i64 0] w fun r w' => r = .returned (.tuple #[]) ∧ WSt w' b { x with D := D, n := n } { m with slabs := ys } tk ∧ Chg (fun k => k = b) w w' := by
  obtain ⟨wb, hwb, hL, hz, f1, -⟩ := box1 w #[.slice (some ⟨D, 0, none⟩) n n] 27
  have a0 := f1 0 (.slice (some ⟨D, 0, none⟩) n n) rfl
  have hb := h.later hL
  have hDb := hD.later hL
  have hS := hb.setArena hDb hn
  have p0 := hb.bx.cell (i := 0) rfl
  have pf := hb.bx.frozen
  have HS := Lib.hid hS
  clear f1 h hb hD hDb hn hS
  go_enter Try.func83, Try.ntmps83
  go_wp2_with (go_at_call 64; rw [hwb.out]; (with_reducible refine (mneed_yes _ _).mono ?_); rintro e w9 ⟨rfl, rfl⟩)
  refine bodyPost_end (results_none rfl _ _ _) rfl ?_
  exact ⟨rfl, HS.out, Chg.set (S := fun k => k = b) (Chg.of_later hL) rfl _⟩
theorem wslabs_no (b : Nat) (a : Value) (k : Int) (w : World) (hk : ¬ k = 0) :
    Calls Try.prog 83 #[.pointer (some ⟨b, 0, none⟩), .agg #[a], .int .i64 k] w fun r w' => r = .panicked (errChain k) ∧ Later w w' := by
  have hk2 : (k == 0) = false := beq_eq_false_iff_ne.2 hk
  go_enter Try.func83, Try.ntmps83
  go_wp2_with (go_at_call 64; (with_reducible refine (mneed_no _ _).mono ?_); rintro e w9 ⟨rfl, rfl⟩)
  exact ⟨rfl, rfl, (Later.refl _).alloc _⟩
theorem WX.fp_arena (x : WX) (b D n : Nat) {k : Nat} (h : ({ x with D := D, n := n } : WX).fp b k) : x.fp b k := h
theorem retA_err {xs : List E2} {e : E2} {k : Int} (h : retA xs e = .error k) : ¬ k = 0 := by
  unfold retA retD at h
  split at h
  · split at h
    · cases h
    · cases h; decide
  · cases h; decide
theorem givA_err {xs : List E2} {e : E2} {k : Int} (h : givA xs e = .error k) : ¬ k = 0 := by
  unfold givA givD at h
  split at h
  · split at h
    · split at h
      · cases h
      · cases h; decide
    · cases h; decide
  · cases h; decide

/-- the row of one entry, and what comes of the arena -/
def rgF (n : Nat) (er : Option Int) : Nat → Gh → Value
  | 9, s => match er with | some k => .tuple #[.agg #[.slice none 0 0], .int .i64 k] | none => .tuple #[.agg #[.slice (some ⟨s.n, 0, none⟩) n n], .int .i64 0]
  | _, s => .slice (some ⟨s.n, 0, none⟩) 1 1
def rgE (i : Nat) : Bool := i == 8 || i == 9
def rgV (b0 n : Nat) (e : E2) (ys : List E2) (er : Option Int) : Nat → (Nat → Gh) → World → Prop
  | 8, t, W => Rd 2 encE W (some ⟨(t 8).n, 0, none⟩) 1 [e]
  | 9, t, W => er = none → b0 ≤ (t 9).n ∧ Box W (t 9).n (flat encE ys).toArray 47 ∧ ys.length = n
  | _, _, _ => True
theorem rgVL (b0 n : Nat) (e : E2) (ys : List E2) (er : Option Int) : ∀ j t W W', rgV b0 n e ys er j t W → Later W W' → rgV b0 n e ys er j t W' := by
  intro j t W W' h hL
  unfold rgV at *
  split at h
  · exact h.later hL
  · exact fun he => ⟨(h he).1, (h he).2.1.later hL, (h he).2.2⟩
  · trivial
theorem rgLoc (b0 n : Nat) (e : E2) (ys : List E2) (er : Option Int) : ∀ j (t t' : Nat → Gh) W, t j = t' j → (∀ k, k ∈ gU0 j → t k = t' k) → rgV b0 n e ys er j t W → rgV b0 n e ys er j t' W := by
  intro j t t' W h _ hV
  unfold rgV at *
  split at hV <;> simp_all
theorem rdE_new (W : World) (s g : Int) : Rd 2 encE (W.alloc (.cells #[.int .i64 s, .int .u64 g] 43)) (some ⟨W.heap.size, 0, none⟩) 1 [(s, g)] := by
  have := Box.rd enc_E (xs := [(s, g)]) (Box.new W (flat encE [(s, g)]).toArray 43)
  exact this

def retDD (m : MonD) (tk : List E2) (e : E2) : Except Int (MonD × List E2) := match retA m.slabs e with | .error k => .error k | .ok ys => .ok ({ m with slabs := ys }, tk)
set_option maxRecDepth 100000 in
set_option maxHeartbeats 8000000 in
theorem wret_c (b : Nat) (x : WX) (m : MonD) (tk : List E2) (kd gi s g : Int) (w : World) (hn : x.n ≤ 1000000) (h : WSt w b x m tk) :
    Calls Try.prog 74 #[.pointer (some ⟨b, 0, none⟩), .agg #[.int .i64 kd, .int .i64 gi, .int .i64 s, .int .u64 g]] w (MPost b x w (retDD m tk (s, g))) := by
  obtain ⟨wb, hwb, hL, hz, f1, -⟩ := box1 w #[.int .i64 kd, .int .i64 gi, .int .i64 s, .int .u64 g] 45
  have e2 := f1 2 (.int .i64 s) rfl
  have e3 := f1 3 (.int .u64 g) rfl
  have hb := h.later hL
  have p0 := hb.field.1
  have hRd : Rd 2 encE wb (some ⟨x.D, 0, none⟩) x.n m.slabs := by have := hb.sl.rd enc_E; rwa [hb.sn] at this
  have cA : Hid (∀ V lb, Later wb V → Rd 2 encE V (some ⟨lb, 0, none⟩) 1 [(s, g)] → Calls Try.prog 84 #[.agg #[.slice (some ⟨x.D, 0, none⟩) x.n x.n], .slice (some ⟨lb, 0, none⟩) 1 1] V fun r w' => Later V w' ∧ ArenaP (retA m.slabs (s, g)) x.n V r w') := fun V lb hV hE =>
    aret_c _ x.n x.n m.slabs _ 1 s g V hn ⟨Nat.le_refl _, by decide⟩ (hRd.later hV) hE
  have HB := Lib.hid hb
  clear f1 h hb hRd
  cases hA : retA m.slabs (s, g) with
  | error k =>
    have hk := retA_err hA
    have HP : Hid (retDD m tk (s, g) = .error k) := by show _ = _; simp [retDD, hA]
    have cA' : Hid (∀ V lb, Later wb V → Rd 2 encE V (some ⟨lb, 0, none⟩) 1 [(s, g)] → Calls Try.prog 84 #[.agg #[.slice (some ⟨x.D, 0, none⟩) x.n x.n], .slice (some ⟨lb, 0, none⟩) 1 1] V fun r w' => r = .returned (.tuple #[.agg #[.slice none 0 0], .int .i64 k]) ∧ Later V w') := fun V lb hV hE =>
      (cA.out V lb hV hE).mono fun r w' h => by rw [hA] at h; exact ⟨h.2, h.1⟩
    clear cA hA
    go_enter Try.func74, Try.ntmps74
    go_wp2
    rw [hwb.out]
    refine region_ghost (S := Later wb) (af := ?_) 12 (rgF x.n (some k)) (rgV wb.heap.size x.n (s, g) [] (some k)) rgE gU0 (by kernel_rfl) (by kernel_rfl) (by kernel_rfl) (by decide) (by kernel_rfl) (fun _ h => h.drew) (Later.refl _) (fun _ _ h h2 => h.trans h2) (rgVL _ _ _ _ _) (rgLoc _ _ _ _ _) ?_ ?_
    rotate_left
    · intro t
      repeat (first
        | (refine SeqT.val (v := ?_) (by rfl) (by rfl) (fun W hW => ?_) ?_; rotate_left; (· (go_simp; try with_reducible rfl)); try simp only [Act.put, List.setIfInBounds_toArray, List.set_cons_zero, List.set_cons_succ])
        | (refine SeqT.skip (by rfl) (by rfl) ?_; try simp only [Act.put, List.setIfInBounds_toArray, List.set_cons_zero, List.set_cons_succ])
        | (refine SeqT.make (.slice (some ⟨(t 8).n, 0, none⟩) 1 1) (by rfl) (by rfl) (by rfl) (fun W hW hd => ?_) ?_; (· (exact ⟨⟨none, W.heap.size, 0, undef⟩, W.alloc (.cells #[.int .i64 s, .int .u64 g] 43), by go_simp; first | rfl | exact ⟨rfl, rfl⟩, rdE_new _ _ _, (Later.refl W).alloc _⟩)); try simp only [Act.put, List.setIfInBounds_toArray, List.set_cons_zero, List.set_cons_succ])
        | (refine SeqT.call (g := ?_) (args := ?_) (.tuple #[.agg #[.slice none 0 0], .int .i64 k]) (by rfl) (by rfl) (by rfl) (fun W hW => ?_) (fun W hW hd => ?_) ?_; rotate_left 2; (· (go_simp; first | with_reducible rfl | (refine ⟨?_, ?_⟩ <;> with_reducible rfl))); (· (exact (cA'.out W _ hW (hd 8 rfl ⟨{ on := 8, ground := Ground.data }, by simp, rfl, rfl⟩)).mono fun e W2 ⟨e1, h1⟩ => ⟨default, e1, fun h => (by cases h), h1⟩)); try simp only [Act.put, List.setIfInBounds_toArray, List.set_cons_zero, List.set_cons_succ])
        )
      exact SeqT.nil _
    intro t W hW hV
    refine wpList_is (l' := [_]) rfl ?_
    clear hV
    go_wp2_with fail
    refine (wslabs_no _ _ _ _ hk).mono ?_
    rintro e w9 ⟨rfl, hL9⟩
    exact ⟨rfl, Chg.of_later (hL.trans (hW.trans hL9)), by rw [HP.out]⟩
  | ok ys =>
    have HP : Hid (retDD m tk (s, g) = .ok ({ m with slabs := ys }, tk)) := by show _ = _; simp [retDD, hA]
    have cA' : Hid (∀ V lb, Later wb V → Rd 2 encE V (some ⟨lb, 0, none⟩) 1 [(s, g)] → Calls Try.prog 84 #[.agg #[.slice (some ⟨x.D, 0, none⟩) x.n x.n], .slice (some ⟨lb, 0, none⟩) 1 1] V fun r w' => ∃ D, r = .returned (.tuple #[.agg #[.slice (some ⟨D, 0, none⟩) x.n x.n], .int .i64 0]) ∧ V.heap.size ≤ D ∧ Box w' D (flat encE ys).toArray 47 ∧ ys.length = x.n ∧ Later V w') := fun V lb hV hE =>
      (cA.out V lb hV hE).mono fun r w' h => by rw [hA] at h; obtain ⟨h1, D, h2, h3, h4, h5⟩ := h; exact ⟨D, h2, h3, h4, h5, h1⟩
    clear cA hA
    go_enter Try.func74, Try.ntmps74
    go_wp2
    rw [hwb.out]
    refine region_ghost (S := Later wb) (af := ?_) 12 (rgF x.n none) (rgV wb.heap.size x.n (s, g) ys none) rgE gU0 (by kernel_rfl) (by kernel_rfl) (by kernel_rfl) (by decide) (by kernel_rfl) (fun _ h => h.drew) (Later.refl _) (fun _ _ h h2 => h.trans h2) (rgVL _ _ _ _ _) (rgLoc _ _ _ _ _) ?_ ?_
    rotate_left
    · intro t
      repeat (first
        | (refine SeqT.val (v := ?_) (by rfl) (by rfl) (fun W hW => ?_) ?_; rotate_left; (· (go_simp; try with_reducible rfl)); try simp only [Act.put, List.setIfInBounds_toArray, List.set_cons_zero, List.set_cons_succ])
        | (refine SeqT.skip (by rfl) (by rfl) ?_; try simp only [Act.put, List.setIfInBounds_toArray, List.set_cons_zero, List.set_cons_succ])
        | (refine SeqT.make (.slice (some ⟨(t 8).n, 0, none⟩) 1 1) (by rfl) (by rfl) (by rfl) (fun W hW hd => ?_) ?_; (· (exact ⟨⟨none, W.heap.size, 0, undef⟩, W.alloc (.cells #[.int .i64 s, .int .u64 g] 43), by go_simp; first | rfl | exact ⟨rfl, rfl⟩, rdE_new _ _ _, (Later.refl W).alloc _⟩)); try simp only [Act.put, List.setIfInBounds_toArray, List.set_cons_zero, List.set_cons_succ])
        | (refine SeqT.call (g := ?_) (args := ?_) (.tuple #[.agg #[.slice (some ⟨(t 9).n, 0, none⟩) x.n x.n], .int .i64 0]) (by rfl) (by rfl) (by rfl) (fun W hW => ?_) (fun W hW hd => ?_) ?_; rotate_left 2; (· (go_simp; first | with_reducible rfl | (refine ⟨?_, ?_⟩ <;> with_reducible rfl))); (· (exact (cA'.out W _ hW (hd 8 rfl ⟨{ on := 8, ground := Ground.data }, by simp, rfl, rfl⟩)).mono fun e W2 ⟨D, e1, h1, h2, h3, h4⟩ => ⟨⟨none, D, 0, undef⟩, e1, fun _ => ⟨Nat.le_trans hW.sz h1, h2, h3⟩, h4⟩)); try simp only [Act.put, List.setIfInBounds_toArray, List.set_cons_zero, List.set_cons_succ])
        )
      exact SeqT.nil _
    intro t W hW hV
    refine wpList_is (l' := [_]) rfl ?_
    have h9 := hV 9 (by decide) rfl
    simp only [rgV] at h9
    obtain ⟨-, hD, hys⟩ := h9 (by trivial)
    generalize (t 9).n = D9 at *
    clear hV
    go_wp2_with fail
    refine (wslabs_ok b x m tk D9 x.n ys W (HB.out.later hW) hD hys).mono ?_
    rintro e w9 ⟨rfl, hS, hC⟩
    go_wp2
    refine bodyPost_end (results_none rfl _ _ _) rfl ?_
    refine ⟨(Chg.of_later (hL.trans hW)).trans' hC (fun k _ e => by subst e; exact x.fp_b _), ?_⟩
    rw [HP.out]
    exact ⟨rfl, _, hS, fun _ h => .inl h⟩

def givDD (m : MonD) (tk : List E2) (e : E2) : Except Int (MonD × List E2) := match givA m.slabs e with | .error k => .error k | .ok ys => .ok ({ m with slabs := ys }, tk)
set_option maxRecDepth 100000 in
set_option maxHeartbeats 8000000 in
theorem wgiv_c (b : Nat) (x : WX) (m : MonD) (tk : List E2) (kd gi s g : Int) (w : World) (hwf : ∀ x ∈ m.slabs, 0 ≤ x.2) (hn : x.n ≤ 1000000) (h : WSt w b x m tk) :
    Calls Try.prog 75 #[.pointer (some ⟨b, 0, none⟩), .agg #[.int .i64 kd, .int .i64 gi, .int .i64 s, .int .u64 g]] w (MPost b x w (givDD m tk (s, g))) := by
  obtain ⟨wb, hwb, hL, hz, f1, -⟩ := box1 w #[.int .i64 kd, .int .i64 gi, .int .i64 s, .int .u64 g] 45
  have e2 := f1 2 (.int .i64 s) rfl
  have e3 := f1 3 (.int .u64 g) rfl
  have hb := h.later hL
  have p0 := hb.field.1
  have hRd : Rd 2 encE wb (some ⟨x.D, 0, none⟩) x.n m.slabs := by have := hb.sl.rd enc_E; rwa [hb.sn] at this
  have cA : Hid (∀ V lb, Later wb V → Rd 2 encE V (some ⟨lb, 0, none⟩) 1 [(s, g)] → Calls Try.prog 85 #[.agg #[.slice (some ⟨x.D, 0, none⟩) x.n x.n], .slice (some ⟨lb, 0, none⟩) 1 1] V fun r w' => Later V w' ∧ ArenaP (givA m.slabs (s, g)) x.n V r w') := fun V lb hV hE =>
    agiv_c _ x.n x.n m.slabs _ 1 s g V hn hwf ⟨Nat.le_refl _, by decide⟩ (hRd.later hV) hE
  have HB := Lib.hid hb
  clear f1 h hb hRd
  cases hA : givA m.slabs (s, g) with
  | error k =>
    have hk := givA_err hA
    have HP : Hid (givDD m tk (s, g) = .error k) := by show _ = _; simp [givDD, hA]
    have cA' : Hid (∀ V lb, Later wb V → Rd 2 encE V (some ⟨lb, 0, none⟩) 1 [(s, g)] → Calls Try.prog 85 #[.agg #[.slice (some ⟨x.D, 0, none⟩) x.n x.n], .slice (some ⟨lb, 0, none⟩) 1 1] V fun r w' => r = .returned (.tuple #[.agg #[.slice none 0 0], .int .i64 k]) ∧ Later V w') := fun V lb hV hE =>
      (cA.out V lb hV hE).mono fun r w' h => by rw [hA] at h; exact ⟨h.2, h.1⟩
    clear cA hA
    go_enter Try.func75, Try.ntmps75
    go_wp2
    rw [hwb.out]
    refine region_ghost (S := Later wb) (af := ?_) 12 (rgF x.n (some k)) (rgV wb.heap.size x.n (s, g) [] (some k)) rgE gU0 (by kernel_rfl) (by kernel_rfl) (by kernel_rfl) (by decide) (by kernel_rfl) (fun _ h => h.drew) (Later.refl _) (fun _ _ h h2 => h.trans h2) (rgVL _ _ _ _ _) (rgLoc _ _ _ _ _) ?_ ?_
    rotate_left
    · intro t
      repeat (first
        | (refine SeqT.val (v := ?_) (by rfl) (by rfl) (fun W hW => ?_) ?_; rotate_left; (· (go_simp; try with_reducible rfl)); try simp only [Act.put, List.setIfInBounds_toArray, List.set_cons_zero, List.set_cons_succ])
        | (refine SeqT.skip (by rfl) (by rfl) ?_; try simp only [Act.put, List.setIfInBounds_toArray, List.set_cons_zero, List.set_cons_succ])
        | (refine SeqT.make (.slice (some ⟨(t 8).n, 0, none⟩) 1 1) (by rfl) (by rfl) (by rfl) (fun W hW hd => ?_) ?_; (· (exact ⟨⟨none, W.heap.size, 0, undef⟩, W.alloc (.cells #[.int .i64 s, .int .u64 g] 43), by go_simp; first | rfl | exact ⟨rfl, rfl⟩, rdE_new _ _ _, (Later.refl W).alloc _⟩)); try simp only [Act.put, List.setIfInBounds_toArray, List.set_cons_zero, List.set_cons_succ])
        | (refine SeqT.call (g := ?_) (args := ?_) (.tuple #[.agg #[.slice none 0 0], .int .i64 k]) (by rfl) (by rfl) (by rfl) (fun W hW => ?_) (fun W hW hd => ?_) ?_; rotate_left 2; (· (go_simp; first | with_reducible rfl | (refine ⟨?_, ?_⟩ <;> with_reducible rfl))); (· (exact (cA'.out W _ hW (hd 8 rfl ⟨{ on := 8, ground := Ground.data }, by simp, rfl, rfl⟩)).mono fun e W2 ⟨e1, h1⟩ => ⟨default, e1, fun h => (by cases h), h1⟩)); try simp only [Act.put, List.setIfInBounds_toArray, List.set_cons_zero, List.set_cons_succ])
        )
      exact SeqT.nil _
    intro t W hW hV
    refine wpList_is (l' := [_]) rfl ?_
    clear hV
    go_wp2_with fail
    refine (wslabs_no _ _ _ _ hk).mono ?_
    rintro e w9 ⟨rfl, hL9⟩
    exact ⟨rfl, Chg.of_later (hL.trans (hW.trans hL9)), by rw [HP.out]⟩
  | ok ys =>
    have HP : Hid (givDD m tk (s, g) = .ok ({ m with slabs := ys }, tk)) := by show _ = _; simp [givDD, hA]
    have cA' : Hid (∀ V lb, Later wb V → Rd 2 encE V (some ⟨lb, 0, none⟩) 1 [(s, g)] → Calls Try.prog 85 #[.agg #[.slice (some ⟨x.D, 0, none⟩) x.n x.n], .slice (some ⟨lb, 0, none⟩) 1 1] V fun r w' => ∃ D, r = .returned (.tuple #[.agg #[.slice (some ⟨D, 0, none⟩) x.n x.n], .int .i64 0]) ∧ V.heap.size ≤ D ∧ Box w' D (flat encE ys).toArray 47 ∧ ys.length = x.n ∧ Later V w') := fun V lb hV hE =>
      (cA.out V lb hV hE).mono fun r w' h => by rw [hA] at h; obtain ⟨h1, D, h2, h3, h4, h5⟩ := h; exact ⟨D, h2, h3, h4, h5, h1⟩
    clear cA hA
    go_enter Try.func75, Try.ntmps75
    go_wp2
    rw [hwb.out]
    refine region_ghost (S := Later wb) (af := ?_) 12 (rgF x.n none) (rgV wb.heap.size x.n (s, g) ys none) rgE gU0 (by kernel_rfl) (by kernel_rfl) (by kernel_rfl) (by decide) (by kernel_rfl) (fun _ h => h.drew) (Later.refl _) (fun _ _ h h2 => h.trans h2) (rgVL _ _ _ _ _) (rgLoc _ _ _ _ _) ?_ ?_
    rotate_left
    · intro t
      repeat (first
        | (refine SeqT.val (v := ?_) (by rfl) (by rfl) (fun W hW => ?_) ?_; rotate_left; (· (go_simp; try with_reducible rfl)); try simp only [Act.put, List.setIfInBounds_toArray, List.set_cons_zero, List.set_cons_succ])
        | (refine SeqT.skip (by rfl) (by rfl) ?_; try simp only [Act.put, List.setIfInBounds_toArray, List.set_cons_zero, List.set_cons_succ])
        | (refine SeqT.make (.slice (some ⟨(t 8).n, 0, none⟩) 1 1) (by rfl) (by rfl) (by rfl) (fun W hW hd => ?_) ?_; (· (exact ⟨⟨none, W.heap.size, 0, undef⟩, W.alloc (.cells #[.int .i64 s, .int .u64 g] 43), by go_simp; first | rfl | exact ⟨rfl, rfl⟩, rdE_new _ _ _, (Later.refl W).alloc _⟩)); try simp only [Act.put, List.setIfInBounds_toArray, List.set_cons_zero, List.set_cons_succ])
        | (refine SeqT.call (g := ?_) (args := ?_) (.tuple #[.agg #[.slice (some ⟨(t 9).n, 0, none⟩) x.n x.n], .int .i64 0]) (by rfl) (by rfl) (by rfl) (fun W hW => ?_) (fun W hW hd => ?_) ?_; rotate_left 2; (· (go_simp; first | with_reducible rfl | (refine ⟨?_, ?_⟩ <;> with_reducible rfl))); (· (exact (cA'.out W _ hW (hd 8 rfl ⟨{ on := 8, ground := Ground.data }, by simp, rfl, rfl⟩)).mono fun e W2 ⟨D, e1, h1, h2, h3, h4⟩ => ⟨⟨none, D, 0, undef⟩, e1, fun _ => ⟨Nat.le_trans hW.sz h1, h2, h3⟩, h4⟩)); try simp only [Act.put, List.setIfInBounds_toArray, List.set_cons_zero, List.set_cons_succ])
        )
      exact SeqT.nil _
    intro t W hW hV
    refine wpList_is (l' := [_]) rfl ?_
    have h9 := hV 9 (by decide) rfl
    simp only [rgV] at h9
    obtain ⟨-, hD, hys⟩ := h9 (by trivial)
    generalize (t 9).n = D9 at *
    clear hV
    go_wp2_with fail
    refine (wslabs_ok b x m tk D9 x.n ys W (HB.out.later hW) hD hys).mono ?_
    rintro e w9 ⟨rfl, hS, hC⟩
    go_wp2
    refine bodyPost_end (results_none rfl _ _ _) rfl ?_
    refine ⟨(Chg.of_later (hL.trans hW)).trans' hC (fun k _ e => by subst e; exact x.fp_b _), ?_⟩
    rw [HP.out]
    exact ⟨rfl, _, hS, fun _ h => .inl h⟩
end Go.Proofs.Ytdheckfndldbmaa

namespace Go.Proofs.Ytdheckfndldbmaa
open Go.RowKit
attribute [local go_sem] merge_t merge_f merge_a merge_o

def takeDD (m : MonD) (tk : List E2) (i : Nat) : Except Int (MonD × List E2) :=
  if m.pinned[i]?.getD false then match takeA m.slabs with | .error k => .error k | .ok (ys, e) => getDD { m with slabs := ys } (tk ++ [e]) i e else .error 4
theorem takeA_err {xs : List E2} {k : Int} (h : takeA xs = .error k) : ¬ k = 0 := by
  unfold takeA at h
  split at h
  · split at h
    · cases h
    · cases h; decide
  · cases h; decide
theorem WX.fp_took (x : WX) (b : Nat) (v : Value) {k : Nat} (h : ({ x with tv := v } : WX).fp b k) : x.fp b k ∨ v.ownBlock = some k := by
  rcases h with h | h | h | h | h | h
  · exact .inl (.inl h)
  · exact .inl (.inr (.inl h))
  · exact .inl (.inr (.inr (.inl h)))
  · exact .inl (.inr (.inr (.inr (.inl h))))
  · exact .inl (.inr (.inr (.inr (.inr (.inl h)))))
  · exact .inr h

theorem WSt.chg {W W' : World} {b : Nat} {x : WX} {m : MonD} {tk : List E2} (h : WSt W b x m tk) {S : Nat → Prop} (hC : Chg S W W') (hf : ∀ k, x.fp b k → ¬ S k) (hD : ¬ S x.D) : WSt W' b x m tk :=
  ⟨h.bx.chg hC (hf _ (x.fp_b b)), h.sl.chg hC hD, h.sn, h.pi.chg hC (hf _ (x.fp_P b)), h.pn, hC.own h.ha (fun k e => by cases e; exact hf _ (x.fp_H b)), h.hn, fun j hj => let ⟨A, n, c, h1, h2, h3⟩ := h.ro j hj; ⟨A, n, c, h1, hC.own h2 (fun k e => hf k (.inr (.inr (.inr (.inl ⟨j, _, h1, e⟩))))), h3⟩,
    h.ap, hC.own h.ba (fun k e => hf k (.inr (.inr (.inr (.inr (.inl e)))))), hC.own h.tu (fun k e => hf k (.inr (.inr (.inr (.inr (.inr e)))))), h.ta⟩
theorem MPost.mk' {b : Nat} {x : WX} {w w' : World} {res : Except Int (MonD × List E2)} {r : Ending} (h : MPost b x w res r w') : (r = .returned (.tuple #[]) ∨ ∃ k, r = .panicked (errChain k)) := by
  have h2 := h.2
  cases res with
  | error k => exact .inr ⟨k, h2⟩
  | ok s => exact .inl h2.1

set_option maxRecDepth 100000 in
set_option maxHeartbeats 8000000 in
theorem wtake_c (N b : Nat) (x : WX) (m : MonD) (tk : List E2) (kd s g : Int) (i : Nat) (w : World) (hN : N ≤ 900000) (hB : WB N x m tk) (hi : i < x.g) (h : WSt w b x m tk) :
    Calls Try.prog 73 #[.pointer (some ⟨b, 0, none⟩), .agg #[.int .i64 kd, .int .i64 i, .int .i64 s, .int .u64 g]] w (MPost b x w (takeDD m tk i)) := by
  obtain ⟨wb, hwb, hL, hz, f1, -⟩ := box1 w #[.int .i64 kd, .int .i64 i, .int .i64 s, .int .u64 g] 45
  have e0 := f1 0 (.int .i64 kd) rfl
  have e1 := f1 1 (.int .i64 i) rfl
  have e2 := f1 2 (.int .i64 s) rfl
  have e3 := f1 3 (.int .u64 g) rfl
  have hb := h.later hL
  have cP : Hid (∀ V, Later wb V → Calls Try.prog 81 #[.pointer (some ⟨b, 0, none⟩), .agg #[.int .i64 kd, .int .i64 i, .int .i64 s, .int .u64 g]] V fun r w' => r = (if m.pinned[i]?.getD false then .returned (.tuple #[]) else .panicked (errChain 4)) ∧ Later V w') := fun V hV => wpinned_c b x m tk kd s g i V hB.1 hi (hb.later hV)
  have HB := Lib.hid hb
  have hfl : Hid (∀ k, x.fp b k → k < w.heap.size) := fun k hk => by
    rcases hk with e | e | e | ⟨j, u, hj, hk⟩ | e | e
    · rw [e]; exact h.bx.lt
    · rw [e]; exact h.pi.lt
    · rw [e]; exact (h.ha.lt _ rfl).2
    · obtain ⟨A, n, c, rfl, _, ho, _⟩ := h.row hj; exact (ho.lt k hk).2
    · exact (h.ba.lt k e).2
    · exact (h.tu.lt k e).2
  have hbw : Box wb w.heap.size #[.int .i64 kd, .int .i64 i, .int .i64 s, .int .u64 g] 45 := by rw [← hwb.out]; exact Box.new _ _ _
  have HBW := Lib.hid hbw
  clear f1 h hb hbw
  cases hpk : m.pinned[i]?.getD false with
  | false =>
    have HP : Hid (takeDD m tk i = .error 4) := by show _ = _; simp [takeDD, hpk]
    have HK := Lib.hid hpk
    clear hpk
    go_enter Try.func73, Try.ntmps73
    go_wp2_with fail
    rw [hwb.out]
    refine (cP.out _ (Later.refl _)).mono ?_
    rw [HK.out]
    rintro e w1 ⟨rfl, hL1⟩
    exact ⟨rfl, Chg.of_later (hL.trans hL1), by rw [HP.out]⟩
  | true =>
    have HK := Lib.hid hpk
    have hRd : Rd 2 encE wb (some ⟨x.D, 0, none⟩) x.n m.slabs := by have := HB.out.sl.rd enc_E; rwa [HB.out.sn] at this
    have hn : x.n ≤ 128 := by have h3 := hB.2.2.1; simp only [arenaOk, Bool.and_eq_true, decide_eq_true_eq] at h3; rw [← HB.out.sn]; exact h3.2.1
    cases hA : takeA m.slabs with
    | error k =>
      have hk := takeA_err hA
      have HP : Hid (takeDD m tk i = .error k) := by show _ = _; simp [takeDD, hpk, hA]
      have cA : Hid (∀ V, Later wb V → Calls Try.prog 82 #[.agg #[.slice (some ⟨x.D, 0, none⟩) x.n x.n], .int .i64 1] V fun r w' => r = .returned (.tuple #[.agg #[.slice none 0 0], .slice none 0 0, .int .i64 k]) ∧ Later V w') := fun V hV =>
        (atake_c _ x.n x.n m.slabs V (by omega) (hRd.later hV)).mono fun r w' h => by unfold TakeAP at h; rw [hA] at h; exact ⟨h.2, h.1⟩
      clear hpk hA hRd
      go_enter Try.func73, Try.ntmps73
      go_wp2_with fail
      rw [hwb.out]
      refine (cP.out _ (Later.refl _)).mono ?_
      rw [HK.out]
      rintro e w1 ⟨rfl, hL1⟩
      have p0 := (HB.out.later hL1).field.1
      go_wp2_with fail
      refine (cA.out _ hL1).mono ?_
      rintro e w2 ⟨rfl, hL2⟩
      go_wp2_with fail
      refine (wslabs_no _ _ _ _ hk).mono ?_
      rintro e w9 ⟨rfl, hL9⟩
      exact ⟨rfl, Chg.of_later (((hL.trans (hL1.trans hL2)).alloc _).trans hL9), by rw [HP.out]⟩
    | ok p =>
      obtain ⟨ys, es, eg⟩ := p
      have HP : Hid (takeDD m tk i = getDD { m with slabs := ys } (tk ++ [(es, eg)]) i (es, eg)) := by show _ = _; simp [takeDD, hpk, hA]
      have cA : Hid (∀ V, Later wb V → Calls Try.prog 82 #[.agg #[.slice (some ⟨x.D, 0, none⟩) x.n x.n], .int .i64 1] V fun r w' => ∃ D L lc, r = .returned (.tuple #[.agg #[.slice (some ⟨D, 0, none⟩) x.n x.n], .slice L 1 lc, .int .i64 0]) ∧ Box w' D (flat encE ys).toArray 47 ∧ ys.length = x.n ∧ w'.ownsRow V.heap.size 43 2 (.slice L 1 lc) 1 (flat encE [(es, eg)]) ∧ Later V w') := fun V hV =>
        (atake_c _ x.n x.n m.slabs V (by omega) (hRd.later hV)).mono fun r w' h => by
          unfold TakeAP at h; rw [hA] at h
          obtain ⟨h1, D, L, lc, h2, h3, h4, h5, h6⟩ := h
          exact ⟨D, L, lc, h2, h4, h5, h6, h1⟩
      have htl : tk.length ≤ 900000 := by have := hB.2.2.2.2.2; omega
      have hrow := hB.row i
      clear hpk hA hRd
      go_enter Try.func73, Try.ntmps73
      go_wp2_with fail
      rw [hwb.out]
      refine (cP.out _ (Later.refl _)).mono ?_
      rw [HK.out]
      rintro e w1 ⟨rfl, hL1⟩
      have p0 := (HB.out.later hL1).field.1
      go_wp2_with fail
      refine (cA.out _ hL1).mono ?_
      rintro e w2 ⟨D, L, lc, rfl, hD, hyl, hLo, hL2⟩
      go_wp2_with fail
      have hLa : Later w2 (w2.alloc (.cells #[.slice (some ⟨D, 0, none⟩) x.n x.n] 27)) := (Later.refl _).alloc _
      refine (wslabs_ok b x m tk D x.n ys _ (HB.out.later (hL1.trans (hL2.trans hLa))) (hD.later hLa) hyl).mono ?_
      rintro e w3 ⟨rfl, hS3, hC3⟩
      have hfl2 := fun k hk => hfl.out k hk
      have hsz2 : w.heap.size ≤ w1.heap.size := (hL.trans hL1).sz
      have hbne : b < w.heap.size := hfl.out b (x.fp_b b)
      have hLo3 : w3.ownsRow w1.heap.size 43 2 (.slice L 1 lc) 1 (flat encE [(es, eg)]) := hC3.own (hLa.own hLo) (fun k e e' => by have := (hLo.lt k e).1; omega)
      have p4 := hS3.bx.cell (i := 4) rfl
      have pf := hS3.bx.frozen
      obtain ⟨Lb, rfl⟩ : ∃ Lb, L = some ⟨Lb, 0, none⟩ := by
        rcases hLo3.2 with ⟨hn, _⟩ | ⟨g, cap, cur, hs, _⟩
        · cases hn
        · cases hs; exact ⟨g, rfl⟩
      have hLb := hLo3.lt Lb rfl
      have hcellL : ∀ j v, [Value.int .i64 es, .int .u64 eg][j]? = some v → w3.cell? ((⟨Lb, 0, none⟩ : Addr).add j) = some v := fun j v hv => hLo3.cells (g := Lb) rfl j v (by simpa [flat, encE] using hv)
      have hbox3 : Box w3 w.heap.size #[.int .i64 kd, .int .i64 i, .int .i64 s, .int .u64 g] 45 := (HBW.out.later (hL1.trans (hL2.trans hLa))).chg hC3 (by omega)
      obtain ⟨i0, hi', hz0, hz1, hz2⟩ := info_parts infoE
      have Hi : Hid (Try.prog.info? 43 = some i0 ∧ i0.zero = some (.agg #[.int .i64 0, .int .u64 0]) ∧ i0.size = 2 ∧ i0.bytes = 16) := ⟨hi', hz0, hz1, hz2⟩
      have HS3 := Lib.hid hS3
      have HC3 := Lib.hid hC3
      clear hi' hz0 hz1 hz2 hS3 hC3 e0 e1 e2 e3 p0 hLo hD
      go_wp2_with (at_builtin; (refine wpList_append_own_at _ rfl (.tmp 28) (.tmp 29) 54 rfl 0 43 i0 (.agg #[.int .i64 0, .int .u64 0]) 2 16 Try.underlying54 Hi.out.1 Hi.out.2.1 Hi.out.2.2.1 Hi.out.2.2.2 rfl (by decide) x.tv tk.length (flat encE tk) rfl HS3.out.tu ⟨Lb, 0, none⟩ 1 lc [.int .i64 es, .int .u64 eg] rfl rfl hcellL ?c1 ?c2 ?c3 (Nat.zero_le _) ?_))
      case c1 => intro u hu; simp only [List.mem_cons, List.not_mem_nil, or_false] at hu; rcases hu with rfl | rfl <;> rfl
      case c2 => unfold maxLen; omega
      case c3 => omega
      intro v1 w4 ho1 hg1 _ hwh
      obtain ⟨A1, c1', rfl, -, -⟩ := own_slice ho1
      have hlen : (tk ++ [(es, eg)]).length = tk.length + 1 := by simp
      obtain ⟨hS5, hC5⟩ := HS3.out.setTook (w1 := w4) (v := .slice A1 (tk.length + 1) c1') (r := tk ++ [(es, eg)]) hg1 (by rw [hlen, flat_append, flat_one]; exact ho1) (fun k hk => by
        rcases hwh with e | e
        · exact .inl (by rw [← e]; exact hk)
        · exact .inr (by rw [hk] at e; cases e; exact Nat.le_refl _))
      have htv : ∀ k, x.tv.ownBlock = some k → k < w.heap.size := fun k hk => hfl.out k (.inr (.inr (.inr (.inr (.inr hk)))))
      have hb4 := HS3.out.bx.kept hg1 (fun e => (HS3.out.took_ne e.symm).1 rfl)
      have s0 := hb4.cell (i := 4) rfl
      have s1 := hb4.frozen
      have hsz3 : w.heap.size < w3.heap.size := by have := hbox3.lt; exact this
      obtain ⟨w5, hw5⟩ : ∃ w5, w4.setCell ⟨b, 4, none⟩ (.slice A1 (tk.length + 1) c1') = w5 := ⟨_, rfl⟩
      rw [hw5] at hS5 hC5
      have hLo5 : w5.ownsRow w1.heap.size 43 2 (.slice (some ⟨Lb, 0, none⟩) 1 lc) 1 (flat encE [(es, eg)]) := hC5.own hLo3 (fun k e => by
        have e2 : Lb = k := by simpa [Value.ownBlock] using e
        subst e2
        rintro (e' | e')
        · omega
        · have := htv _ e'; omega)
      have k0 := hLo5.cells (g := Lb) rfl 0 (.int .i64 es) rfl
      have k1 := hLo5.cells (g := Lb) rfl 1 (.int .u64 eg) rfl
      rw [add_at] at k0 k1
      have hbox5 : Box w5 w.heap.size #[.int .i64 kd, .int .i64 i, .int .i64 s, .int .u64 g] 45 := hbox3.chg hC5 (by
        rintro (e' | e')
        · omega
        · have := htv _ e'; omega)
      have t0 := hbox5.cell (i := 2) rfl
      have t1 := hbox5.cell (i := 3) rfl
      have tf := hbox5.frozen
      have hbox6 : Box ((w5.setCell ⟨w.heap.size, 2, none⟩ (.int .i64 es)).setCell ⟨w.heap.size, 3, none⟩ (.int .u64 eg)) w.heap.size #[.int .i64 kd, .int .i64 i, .int .i64 es, .int .u64 eg] 45 := by
        have := (hbox5.set 2 (.int .i64 es)).set 3 (.int .u64 eg); simpa using this
      have hC6 : Chg (fun k => k = w.heap.size) w5 ((w5.setCell ⟨w.heap.size, 2, none⟩ (.int .i64 es)).setCell ⟨w.heap.size, 3, none⟩ (.int .u64 eg)) := Chg.set (S := fun k => k = w.heap.size) (Chg.set (S := fun k => k = w.heap.size) (.refl _ _) rfl _) rfl _
      obtain ⟨w6, hw6⟩ : ∃ w6, (w5.setCell ⟨w.heap.size, 2, none⟩ (.int .i64 es)).setCell ⟨w.heap.size, 3, none⟩ (.int .u64 eg) = w6 := ⟨_, rfl⟩
      rw [hw6] at hbox6 hC6
      have hfx : ∀ k, ({ x with D := D, n := x.n, tv := .slice A1 (tk.length + 1) c1' } : WX).fp b k → x.fp b k ∨ w3.heap.size ≤ k := fun k hk => by
        rcases WX.fp_took { x with D := D, n := x.n } b _ hk with e | e
        · exact .inl e
        · rcases hwh with e' | e'
          · rw [e] at e'; exact .inl (.inr (.inr (.inr (.inr (.inr e'.symm)))))
          · rw [e] at e'; cases e'; exact .inr (Nat.le_refl _)
      have hS6 := hS5.chg hC6 (fun k hk e => by
        rcases hfx k hk with h | h
        · have := hfl.out k h; omega
        · omega) (hS5.sl.ne hbox5 (by decide))
      have hC06 : Chg (x.fp b) w w6 := by
        have a1 : Chg (x.fp b) w (w2.alloc (.cells #[.slice (some ⟨D, 0, none⟩) x.n x.n] 27)) := Chg.of_later (hL.trans (hL1.trans (hL2.trans hLa)))
        have a2 := a1.trans' HC3.out (fun k _ e => by subst e; exact x.fp_b _)
        have a3 := a2.trans' hC5 (fun k _ e => by
          rcases e with e | e
          · subst e; exact x.fp_b _
          · exact .inr (.inr (.inr (.inr (.inr e)))))
        exact a3.trans' hC6 (fun k hk e => by omega)
      have cG := wget_c b { x with D := D, n := x.n, tv := .slice A1 (tk.length + 1) c1' } { m with slabs := ys } (tk ++ [(es, eg)]) kd es eg i w6 hB.1 hi (by simp only; omega) hS6
      have CG := Lib.hid cG
      have u0 := hbox6.cell (i := 0) rfl
      have u1 := hbox6.cell (i := 1) rfl
      have u2 := hbox6.cell (i := 2) rfl
      have u3 := hbox6.cell (i := 3) rfl
      have HFX := Lib.hid hfx
      have HC06 := Lib.hid hC06
      have hw36 : w.heap.size ≤ w3.heap.size := by omega
      clear hS5 hC5 hLo5 hbox5 hC6 hS6 cG ho1 hg1 hwh hLo3 hcellL hbox3 hb4 hfx hC06 htv hfl2
      go_wp2_with fail
      refine CG.out.mono ?_
      rintro r w7 hM
      have hfin : MPost b x w (takeDD m tk i) r w7 := by
        rw [HP.out]
        exact MPost.trans HC06.out (fun k hk => (HFX.out k hk).imp id (fun h => by omega)) hM
      rcases hM.mk' with rfl | ⟨k, rfl⟩
      · go_wp2
        refine bodyPost_end (results_none rfl _ _ _) rfl ?_
        exact hfin
      · exact ⟨rfl, hfin⟩
end Go.Proofs.Ytdheckfndldbmaa
