/- The monitor's tries, where the monitor may be. | Do. | Run's inner function: one watch behind the other. | Run. -/
import Derived.Test.YtdheckfndldbmaaM13
namespace Go.Proofs.Ytdheckfndldbmaa
open Go.RowKit
attribute [local go_sem] merge_t merge_f merge_a merge_o

def tsF (n0 n1 n3 : Nat) : Nat → Gh → Value
  | 3, s => .slice (some ⟨s.n, 0, none⟩) n0 n0
  | 7, s => .slice (some ⟨s.n, 0, none⟩) n1 n1
  | _, s => .slice (some ⟨s.n, 0, none⟩) n3 n3
def tsE (i : Nat) : Bool := i == 3 || i == 7 || i == 10
def tsV (b0 : Nat) (m : MonD) : Nat → (Nat → Gh) → World → Prop
  | 3, t, W => b0 ≤ (t 3).n ∧ Box W (t 3).n (flat encE m.slabs).toArray 47
  | 7, t, W => b0 ≤ (t 7).n ∧ Box W (t 7).n (flat encB m.pinned).toArray 4
  | 10, t, W => b0 ≤ (t 10).n ∧ Box W (t 10).n (flat encW m.bad).toArray 45
  | _, _, _ => True
theorem tsVL (b0 : Nat) (m : MonD) : ∀ j t W W', tsV b0 m j t W → Later W W' → tsV b0 m j t W' := by
  intro j t W W' h hL
  unfold tsV at *
  split at h
  · exact ⟨h.1, h.2.later hL⟩
  · exact ⟨h.1, h.2.later hL⟩
  · exact ⟨h.1, h.2.later hL⟩
  · trivial
theorem tsLoc (b0 : Nat) (m : MonD) : ∀ j (t t' : Nat → Gh) W, t j = t' j → (∀ k, k ∈ gU0 j → t k = t' k) → tsV b0 m j t W → tsV b0 m j t' W := by
  intro j t t' W h _ hV
  unfold tsV at *
  split at hV <;> simp_all

set_option maxRecDepth 100000 in
set_option maxHeartbeats 8000000 in
theorem mtries_c (B : Nat) (v : Value) (m : MonD) (f : FuncId) (caps : Array Value) (w : World) (hB : B ≤ 1000000) (hM : RMon B w v m) (hOk : monOk m = true) (res : Except Int (MonD × List E2))
    (cf : ∀ (args : Array Value) (W : World), (callFunc f args).run Try.prog W = .ok (.enter f args) W)
    (hd : ∀ V b x, Later w V → (∀ k, x.fp b k → w.heap.size ≤ k) → WSt V b x m [] → Calls Try.prog f (#[.pointer (some ⟨b, 0, none⟩)] ++ caps) V (MPost b x V res)) :
    Calls Try.prog 37 #[v, .func (.func f) #[] caps] w (TriesP res w) := by
  have hmf : ∀ (fn : Fn) (first cap : Array Value) (w : World), (Instr.makeFunc fn first cap).run Try.prog w = .ok (.func fn first cap) w := fun _ _ _ _ => rfl
  have HM := Lib.hid hM
  obtain ⟨A0, n0, c0, A1, n1, c1, A2, n2, c2, A3, n3, c3, rfl, hR0, hR1, hR2, hR3, hb, hc⟩ := hM
  obtain ⟨wb, hwb, hL, hwz, b2, b4, b5⟩ := tries_box w (.slice A0 n0 c0) (.slice A1 n1 c1) (.slice A2 n2 c2) (.slice A3 n3 c3)
  have cK : Hid (∀ W, Later wb W → Calls Try.prog 20 #[.agg #[.slice A0 n0 c0, .slice A1 n1 c1, .slice A2 n2 c2, .slice A3 n3 c3]] W fun r w' => r = .returned (.int .i64 0) ∧ Later W w') := fun W hW => by
    have := mcheck_c B _ m W hB (HM.out.later (hL.trans hW))
    rwa [ckM_good hOk] at this
  have cS : Hid (∀ W, Later wb W → Calls Try.prog 65 #[.slice A0 n0 c0] W fun r w' => ∃ g, r = .returned (.slice (some ⟨g, 0, none⟩) n0 n0) ∧ W.heap.size ≤ g ∧ Later W w' ∧ Box w' g (flat encE m.slabs).toArray 47) := fun W hW => ownS_c A0 n0 c0 m.slabs W (by omega) (hR0.later (hL.trans hW))
  have cB : Hid (∀ W, Later wb W → Calls Try.prog 66 #[.slice A1 n1 c1] W fun r w' => ∃ g, r = .returned (.slice (some ⟨g, 0, none⟩) n1 n1) ∧ W.heap.size ≤ g ∧ Later W w' ∧ Box w' g (flat encB m.pinned).toArray 4) := fun W hW => ownB_c A1 n1 c1 m.pinned W (by omega) (hR1.later (hL.trans hW))
  have cW : Hid (∀ W, Later wb W → Calls Try.prog 67 #[.slice A3 n3 c3] W fun r w' => ∃ g, r = .returned (.slice (some ⟨g, 0, none⟩) n3 n3) ∧ W.heap.size ≤ g ∧ Later W w' ∧ Box w' g (flat encW m.bad).toArray 45) := fun W hW => ownW_c A3 n3 c3 m.bad W (by omega) (hR3.later (hL.trans hW))
  have HR2 : Hid (RdR w A2 n2 m.has) := hR2
  have Hb : Hid (∀ l ∈ m.has, l.length ≤ B) := hb.2.2.2.2
  have HN : Hid (m.slabs.length = n0 ∧ m.pinned.length = n1 ∧ m.has.length = n2 ∧ m.bad.length = n3) := ⟨hR0.1, hR1.1, hR2.1, hR3.1⟩
  have hparts := monOk_parts hOk
  have h21 : n2 = n1 := by rw [← hR2.1, ← hR1.1]; exact hparts.2.2.2.1
  have hn1 : 1 ≤ n1 ∧ n1 ≤ 8 := by rw [← hR1.1]; exact ⟨hparts.2.1, hparts.2.2.1⟩
  have hn3 : n3 ≤ 16 := by rw [← hR3.1]; exact hparts.2.2.2.2.1
  subst h21
  have B4 := Lib.hid b4
  have B5 := Lib.hid b5
  have q0 := cel (b2.cell (i := 0) rfl)
  have q1 := cel (b2.cell (i := 1) rfl)
  have q2 := cel (b2.cell (i := 2) rfl)
  have q3 := cel (b2.cell (i := 3) rfl)
  have Hwz := Lib.hid hwz
  have HD := Lib.hid hd
  clear b2 b4 b5 hOk hwz hR0 hR1 hR2 hR3 hb hd hparts
  go_enter_defers Try.func37, Try.ntmps37
  go_wp2_with fail
  rw [hwb.out]
  refine (cK.out _ (Later.refl _)).mono ?_
  rintro e w1 ⟨rfl, hL1⟩
  have q0' := celw hL1 q0
  have q1' := celw hL1 q1
  have q2' := celw hL1 q2
  have q3' := celw hL1 q3
  clear q0 q1 q2 q3
  go_wp2_with (go_at_call 64; (with_reducible refine (mneed_yes _ _).mono ?_); rintro e w9 ⟨rfl, rfl⟩)
  refine region_ghost (S := Later w1) (af := ?_) 11 (tsF n0 n2 n3) (tsV wb.heap.size m) tsE gU0 (by kernel_rfl) (by kernel_rfl) (by kernel_rfl) (by decide) (by kernel_rfl) (fun _ h => h.drew) (Later.refl _) (fun _ _ h h2 => h.trans h2) (tsVL _ _) (tsLoc _ _) ?_ ?_
  rotate_left
  · intro t
    repeat (first
      | (refine SeqT.val (v := ?_) (by rfl) (by rfl) (fun W hW => ?_) ?_; rotate_left; (· (go_simp; try with_reducible rfl)); try simp only [Act.put, List.setIfInBounds_toArray, List.set_cons_zero, List.set_cons_succ])
      | (refine SeqT.skip (by rfl) (by rfl) ?_; try simp only [Act.put, List.setIfInBounds_toArray, List.set_cons_zero, List.set_cons_succ])
      | (refine SeqT.call (g := ?_) (args := ?_) (.slice (some ⟨(t 3).n, 0, none⟩) n0 n0) (by rfl) (by rfl) (by rfl) (fun W hW => ?_) (fun W hW hd => ?_) ?_; rotate_left 2; (· (go_simp; first | with_reducible rfl | (refine ⟨?_, ?_⟩ <;> with_reducible rfl))); (· (exact (cS.out W (hL1.trans hW)).mono fun e W2 ⟨g, e1, h1, h2, h3⟩ => ⟨⟨none, g, 0, undef⟩, e1, ⟨Nat.le_trans (hL1.trans hW).sz h1, h3⟩, h2⟩)); try simp only [Act.put, List.setIfInBounds_toArray, List.set_cons_zero, List.set_cons_succ])
      | (refine SeqT.call (g := ?_) (args := ?_) (.slice (some ⟨(t 7).n, 0, none⟩) n2 n2) (by rfl) (by rfl) (by rfl) (fun W hW => ?_) (fun W hW hd => ?_) ?_; rotate_left 2; (· (go_simp; first | with_reducible rfl | (refine ⟨?_, ?_⟩ <;> with_reducible rfl))); (· (exact (cB.out W (hL1.trans hW)).mono fun e W2 ⟨g, e1, h1, h2, h3⟩ => ⟨⟨none, g, 0, undef⟩, e1, ⟨Nat.le_trans (hL1.trans hW).sz h1, h3⟩, h2⟩)); try simp only [Act.put, List.setIfInBounds_toArray, List.set_cons_zero, List.set_cons_succ])
      | (refine SeqT.call (g := ?_) (args := ?_) (.slice (some ⟨(t 10).n, 0, none⟩) n3 n3) (by rfl) (by rfl) (by rfl) (fun W hW => ?_) (fun W hW hd => ?_) ?_; rotate_left 2; (· (go_simp; first | with_reducible rfl | (refine ⟨?_, ?_⟩ <;> with_reducible rfl))); (· (exact (cW.out W (hL1.trans hW)).mono fun e W2 ⟨g, e1, h1, h2, h3⟩ => ⟨⟨none, g, 0, undef⟩, e1, ⟨Nat.le_trans (hL1.trans hW).sz h1, h3⟩, h2⟩)); try simp only [Act.put, List.setIfInBounds_toArray, List.set_cons_zero, List.set_cons_succ])
      )
    exact SeqT.nil _
  intro t W hW hV
  refine wpList_is (l' := [_, _, _, _]) rfl ?_
  obtain ⟨hD0, hD⟩ := hV 3 (by decide) rfl
  obtain ⟨hP0, hP⟩ := hV 7 (by decide) rfl
  obtain ⟨hQ0, hQ⟩ := hV 10 (by decide) rfl
  generalize (t 3).n = D at *
  generalize (t 7).n = P at *
  generalize (t 10).n = Q9 at *
  clear hV
  have hLW : Later wb W := hL1.trans hW
  have hzW : w.heap.size + 3 ≤ W.heap.size := by have := Hwz.out; have := hLW.sz; omega
  have g4 := (B4.out.later hLW).alloc (.cells #[.slice (some ⟨D, 0, none⟩) n0 n0, .slice (some ⟨P, 0, none⟩) n2 n2, .slice none 0 0, .slice (some ⟨Q9, 0, none⟩) n3 n3, .slice none 0 0] 85)
  have g5 := (B5.out.later hLW).alloc (.cells #[.slice (some ⟨D, 0, none⟩) n0 n0, .slice (some ⟨P, 0, none⟩) n2 n2, .slice none 0 0, .slice (some ⟨Q9, 0, none⟩) n3 n3, .slice none 0 0] 85)
  have hbx := Box.new W #[.slice (some ⟨D, 0, none⟩) n0 n0, .slice (some ⟨P, 0, none⟩) n2 n2, .slice none 0 0, .slice (some ⟨Q9, 0, none⟩) n3 n3, .slice none 0 0] 85
  have s0 := g4.cell (i := 0) rfl
  have s1 := g4.frozen
  have r4 := g4.set 0 (.pointer (some ⟨W.heap.size, 0, none⟩))
  have r5 := g5.set_other (g' := w.heap.size + 1) (by omega) 0 (.pointer (some ⟨W.heap.size, 0, none⟩))
  have rb := hbx.set_other (g' := w.heap.size + 1) (by omega) 0 (.pointer (some ⟨W.heap.size, 0, none⟩))
  have hz3 : wb.heap.size = w.heap.size + 3 := Hwz.out
  have rD := (hD.alloc (.cells #[.slice (some ⟨D, 0, none⟩) n0 n0, .slice (some ⟨P, 0, none⟩) n2 n2, .slice none 0 0, .slice (some ⟨Q9, 0, none⟩) n3 n3, .slice none 0 0] 85)).set_other (g' := w.heap.size + 1) (by omega) 0 (.pointer (some ⟨W.heap.size, 0, none⟩))
  have rP := (hP.alloc (.cells #[.slice (some ⟨D, 0, none⟩) n0 n0, .slice (some ⟨P, 0, none⟩) n2 n2, .slice none 0 0, .slice (some ⟨Q9, 0, none⟩) n3 n3, .slice none 0 0] 85)).set_other (g' := w.heap.size + 1) (by omega) 0 (.pointer (some ⟨W.heap.size, 0, none⟩))
  have rQ := (hQ.alloc (.cells #[.slice (some ⟨D, 0, none⟩) n0 n0, .slice (some ⟨P, 0, none⟩) n2 n2, .slice none 0 0, .slice (some ⟨Q9, 0, none⟩) n3 n3, .slice none 0 0] 85)).set_other (g' := w.heap.size + 1) (by omega) 0 (.pointer (some ⟨W.heap.size, 0, none⟩))
  have rL : Later w ((W.alloc (.cells #[.slice (some ⟨D, 0, none⟩) n0 n0, .slice (some ⟨P, 0, none⟩) n2 n2, .slice none 0 0, .slice (some ⟨Q9, 0, none⟩) n3 n3, .slice none 0 0] 85)).setCell ⟨w.heap.size + 1, 0, none⟩ (.pointer (some ⟨W.heap.size, 0, none⟩))) := ((hL.trans hLW).alloc _).set (by omega) _
  have r2 : ((W.alloc (.cells #[.slice (some ⟨D, 0, none⟩) n0 n0, .slice (some ⟨P, 0, none⟩) n2 n2, .slice none 0 0, .slice (some ⟨Q9, 0, none⟩) n3 n3, .slice none 0 0] 85)).setCell ⟨w.heap.size + 1, 0, none⟩ (.pointer (some ⟨W.heap.size, 0, none⟩))).cell? ⟨w.heap.size, 2, none⟩ = some (.slice A2 n2 c2) :=
    (Chg.set (S := fun k => k = w.heap.size + 1) (Chg.of_later ((Later.refl W).alloc _)) rfl _).cell (q2' _ hW) (by omega)
  obtain ⟨w3, hw3⟩ : ∃ w3, (W.alloc (.cells #[.slice (some ⟨D, 0, none⟩) n0 n0, .slice (some ⟨P, 0, none⟩) n2 n2, .slice none 0 0, .slice (some ⟨Q9, 0, none⟩) n3 n3, .slice none 0 0] 85)).setCell ⟨w.heap.size + 1, 0, none⟩ (.pointer (some ⟨W.heap.size, 0, none⟩)) = w3 := ⟨_, rfl⟩
  rw [hw3] at r4 r5 rb rD rP rQ rL r2
  have HT0 : Hid (TSt w3 W.heap.size D n0 P n2 Q9 n3 m (.slice none 0 0) [] 0 ∧ Box w3 (w.heap.size + 1) #[.pointer (some ⟨W.heap.size, 0, none⟩)] 79 ∧ Box w3 (w.heap.size + 1 + 1) #[.int .i64 0] 33) :=
    ⟨⟨rb, rD, rP, rQ, rfl, World.ownsRow_nil _ _ _ _, fun j hj => by omega, List.nodup_nil⟩, by simpa using r4, r5⟩
  have hbase : w.heap.size + 3 ≤ D ∧ w.heap.size + 3 ≤ P ∧ w.heap.size + 3 ≤ Q9 := by omega
  obtain ⟨b, hbb⟩ : ∃ b, W.heap.size = b := ⟨_, rfl⟩
  rw [hbb] at HT0 hzW hw3
  have hc2 : n2 ≤ c2 ∧ c2 ≤ 9223372036854775807 := by omega
  clear g4 g5 hbx r4 r5 rb rD rP rQ hD hP hQ hz3 hc cS cB cW q0' q1' q2' q3'
  go_wp2
  go_loopw [30] (fun i wr => ∃ (k : Nat) (hv : Value) (rows : List Nat), k ≤ n2 ∧ i = .int .i64 k ∧ Later w wr ∧ TSt wr b D n0 P n2 Q9 n3 m hv rows k ∧ Box wr (w.heap.size + 1) #[.pointer (some ⟨b, 0, none⟩)] 79 ∧ Box wr (w.heap.size + 1 + 1) #[.int .i64 0] 33 ∧
    (∀ r ∈ rows, w.heap.size + 3 ≤ r) ∧ (∀ j, hv.ownBlock = some j → w.heap.size + 3 ≤ j)) (fun i _ => n2 - (intOf i).toNat)
  case atStart => exact ⟨0, _, _, Nat.zero_le _, rfl, rL, HT0.out.1, HT0.out.2.1, HT0.out.2.2, (fun r hr => by cases hr), (fun j hj => by simp [Value.ownBlock] at hj)⟩
  case round =>
    obtain ⟨k, hv, rows, hk, rfl, hLr, hT, h4, h5, hrb, hvb⟩ := hrel
    by_cases hlt : k < n2
    · obtain ⟨q, qo, A', nr, c', rfl, x2, x3, x4, x5⟩ := HR2.out.at k hlt
      have hl : nr ≤ 1000000 := by have := Hb.out _ (getD_mem (d := []) (k := k) (by rw [HN.out.2.2.1]; exact hlt)); have := x5.1; omega
      have cR : Hid (∀ V, Later w V → Calls Try.prog 68 #[.slice A' nr c'] V fun r w' => ∃ g, r = .returned (.slice (some ⟨g, 0, none⟩) nr nr) ∧ V.heap.size ≤ g ∧ Later V w' ∧ Box w' g (flat encE (m.has[k]?.getD [])).toArray 43) := fun V hV => ownE_c A' nr c' _ V hl (x5.later hV)
      have hnr : (m.has[k]?.getD []).length = nr := x5.1
      obtain ⟨Ah, ch, rfl, hch1, hch2⟩ := own_slice hT.ha
      have hlth : ∀ j, (Value.slice Ah k ch).ownBlock = some j → j < wr.heap.size := fun j hj => (hT.ha.lt j hj).2
      have hx0 := x2 _ hLr
      have hhx : ∀ j cs t, (Value.slice Ah k ch).ownBlock = some j → Box wr j cs t → t = 54 := fun j cs t hj hbx => by
        by_cases ht : t = 54
        · exact ht
        · exact absurd hj (own_ne hT.ha (show wr.heap[j]? = _ from hbx) (fun e => ht e.symm))
      have p0 : ∀ V, Chg (fun j => (Value.slice Ah k ch).ownBlock = some j) wr V → V.cell? ⟨w.heap.size + 1, 0, none⟩ = some (.pointer (some ⟨b, 0, none⟩)) := celS (fun e => absurd (hhx _ _ _ e h4) (by decide)) (h4.cell (i := 0) rfl)
      have p1 : ∀ V, Chg (fun j => (Value.slice Ah k ch).ownBlock = some j) wr V → V.cell? ⟨b, 2, none⟩ = some (.slice Ah k ch) := celS (fun e => absurd (hhx _ _ _ e hT.bx) (by decide)) (hT.bx.cell (i := 2) rfl)
      have hLS : ∀ V, Chg (fun j => (Value.slice Ah k ch).ownBlock = some j) wr V → Later w V := fun V hV => ((Chg.of_later hLr).trans hV).to_later fun j hj e => by have := hvb j e; omega
      have HLS := Lib.hid hLS
      have HTT := Lib.hid hT
      have H4 := Lib.hid h4
      have H5 := Lib.hid h5
      have HNR := Lib.hid hnr
      have HHX := Lib.hid hhx
      have hrb' := Lib.hid hrb
      have hvb' := Lib.hid hvb
      have hk8 : k ≤ 8 := by omega
      clear x2 x5 hT h4 h5 hnr hLS hhx hrb hvb
      go_wp2
      refine Y.region_full (S := (Chg (fun j => (Value.slice Ah k ch).ownBlock = some j) wr)) (R := (trR (.slice Ah k ch))) (N := (trN (.slice Ah k ch) k ((List.range k).map fun j => .slice (some ⟨rows[j]?.getD 0, 0, none⟩) (m.has[j]?.getD []).length (m.has[j]?.getD []).length))) (Pn := (fun _ _ => False)) (af := ?_) 10 (trF nr k) (trV wr (.slice Ah k ch) k ((List.range k).map fun j => .slice (some ⟨rows[j]?.getD 0, 0, none⟩) (m.has[j]?.getD []).length (m.has[j]?.getD []).length) (m.has[k]?.getD [])) trE trU (by kernel_rfl) (by kernel_rfl) (by kernel_rfl) (by decide) (by kernel_rfl) (fun _ h => h.drew) (Chg.refl _ _) trSL (trVL hlth) trNL trLoc (fun _ _ _ => ((Later.refl _).drew).own HTT.out.ha) ?_ (fun _ _ _ _ h => h.elim) ?_
      rotate_left
      · intro t
        repeat (first
          | (refine Y.SeqT.val (v := ?_) (by rfl) (by rfl) (fun W hW => ?_) ?_; rotate_left; (· (go_simp; try with_reducible rfl)); try simp only [Act.put, List.setIfInBounds_toArray, List.set_cons_zero, List.set_cons_succ])
          | (refine Y.SeqT.skip (by rfl) (by rfl) ?_; try simp only [Act.put, List.setIfInBounds_toArray, List.set_cons_zero, List.set_cons_succ])
          | (refine Y.SeqT.call (g := ?_) (args := ?_) (.slice (some ⟨(t 7).n, 0, none⟩) nr nr) (by rfl) (by rfl) (by rfl) (fun W hW => ?_) (fun W hW hN hd => ?_) ?_; rotate_left 2; (· (go_simp; first | with_reducible rfl | (refine ⟨?_, ?_⟩ <;> with_reducible rfl))); (· (exact (cR.out W (HLS.out _ hW)).mono fun e W2 ⟨g, e1, h1, h2, h3⟩ => .inl ⟨⟨none, g, 0, undef⟩, e1, ⟨Nat.le_trans hW.size h1, h3⟩, h2⟩)); try simp only [Act.put, List.setIfInBounds_toArray, List.set_cons_zero, List.set_cons_succ])
          | (refine Y.SeqT.make (.slice (some ⟨(t 8).n, 0, none⟩) 1 1) (by rfl) (by rfl) (by rfl) (fun W hW hN hd => ?_) ?_; (· (exact ⟨⟨none, W.heap.size, 0, undef⟩, W.alloc (.cells #[.slice (some ⟨(t 7).n, 0, none⟩) nr nr] 54), by go_simp; first | rfl | exact ⟨rfl, rfl⟩, ⟨hW.size, by rw [HNR.out]; exact Box.new _ _ _⟩, (Later.refl W).alloc _⟩)); try simp only [Act.put, List.setIfInBounds_toArray, List.set_cons_zero, List.set_cons_succ])
          | (refine Y.SeqT.make (.slice (t 9).A (k + 1) (t 9).c) (by rfl) (by rfl) (by rfl) (fun W hW hN hd => ?_) ?_; (· ((obtain ⟨hb8, h8⟩ := hd 8 rfl ⟨{ on := 8, ground := Ground.data }, by simp, rfl, rfl⟩; obtain ⟨i0, hi, hz, hsize, hby⟩ := info_parts infoRR; have hcell : ∀ j u, [Value.slice (some ⟨(t 7).n, 0, none⟩) (m.has[k]?.getD []).length (m.has[k]?.getD []).length][j]? = some u → W.cell? ((⟨(t 8).n, 0, none⟩ : Addr).add j) = some u := (fun j u hu => by rw [add_at, Nat.zero_add]; exact h8.cell (by simpa using hu)); obtain ⟨v', w', hr, q2, q4, q5, q6⟩ := run_append_own_at (P := Try.prog) W 0 29 29 54 i0 (.slice none 0 0) 1 24 Try.underlying29 hi hz hsize hby rfl (by decide) (.slice Ah k ch) k _ (hN rfl) ⟨(t 8).n, 0, none⟩ 1 1 [.slice (some ⟨(t 7).n, 0, none⟩) (m.has[k]?.getD []).length (m.has[k]?.getD []).length] rfl hcell (by intro u hu; rw [List.mem_singleton] at hu; subst hu; rfl) (by unfold maxLen; omega) (by omega) (Nat.zero_le _); obtain ⟨A', c', rfl, -, -⟩ := own_slice q2; exact ⟨⟨A', 0, c', undef⟩, w', exec_append (.tmp 39) (.tmp 42) _ rfl rfl rfl hr, (by simp only [trV, upd, if_true]; exact ⟨q2, fun k hk => by rcases q6 with e | e; exact .inl (by rw [← e]; exact hk); exact .inr (by rw [hk] at e; cases e; exact hW.size)⟩), (by show (if 9 = 9 then _ else _); rw [if_pos rfl]; exact Chg.of_grown q4 fun k e => e)⟩))); try simp only [Act.put, List.setIfInBounds_toArray, List.set_cons_zero, List.set_cons_succ])
          )
        exact Y.SeqT.nil _
      intro t W hW hV
      refine wpList_is (l' := [_, _, _, _]) rfl ?_
      obtain ⟨hb7, h7⟩ := hV 7 (by decide) rfl
      obtain ⟨ho9, hw9⟩ := hV 9 (by decide) rfl
      generalize (t 7).n = R7 at *
      generalize (t 9).A = A9 at *
      generalize (t 9).c = c9 at *
      clear hV
      obtain ⟨hTn, hCn⟩ := HTT.out.next hW hb7 h7 ho9
      have hbxW := HTT.out.bx.chg hW (fun e => absurd (HHX.out _ _ _ e HTT.out.bx) (by decide))
      have s2 := hbxW.cell (i := 2) rfl
      have s3 := hbxW.frozen
      have HF : Hid (TSt (W.setCell ⟨b, 2, none⟩ (.slice A9 (k + 1) c9)) b D n0 P n2 Q9 n3 m (.slice A9 (k + 1) c9) (rows ++ [R7]) (k + 1) ∧ Later w (W.setCell ⟨b, 2, none⟩ (.slice A9 (k + 1) c9)) ∧ Box (W.setCell ⟨b, 2, none⟩ (.slice A9 (k + 1) c9)) (w.heap.size + 1) #[.pointer (some ⟨b, 0, none⟩)] 79 ∧ Box (W.setCell ⟨b, 2, none⟩ (.slice A9 (k + 1) c9)) (w.heap.size + 1 + 1) #[.int .i64 0] 33) := by
        refine ⟨hTn, (HLS.out _ hW).set (by omega) _, H4.out.chg hCn ?_, H5.out.chg hCn ?_⟩
        · rintro (e | e)
          · omega
          · exact absurd (HHX.out _ _ _ e H4.out) (by decide)
        · rintro (e | e)
          · omega
          · exact absurd (HHX.out _ _ _ e H5.out) (by decide)
      have hzr : w.heap.size + 3 ≤ wr.heap.size := by have := HTT.out.bx.lt; have := H5.out.lt; omega
      clear hTn hCn hbxW ho9 h7
      go_wp2
      refine ⟨⟨k + 1, _, _, by omega, by go_num, HF.out.2.1, HF.out.1, HF.out.2.2.1, HF.out.2.2.2, fun r hr => ?_, fun j hj => ?_⟩, by simp [intOf]; omega⟩
      · rcases List.mem_append.1 hr with h | h
        · exact hrb'.out r h
        · rw [List.mem_singleton] at h; omega
      · rcases hw9 j hj with h | h
        · exact hvb'.out j h
        · omega
    · obtain rfl : k = n2 := by omega
      obtain ⟨Ah, ch, rfl, -, -⟩ := own_slice hT.ha
      have hBm : B ≤ maxLen := by unfold maxLen; omega
      obtain ⟨H, rfl, hS⟩ := hT.done (by omega) HN.out.1 HN.out.2.1 HN.out.2.2.1 HN.out.2.2.2 (by unfold maxLen; omega) (fun l hl => Nat.le_trans (Hb.out l hl) hBm)
      have hfp : ∀ j, WX.fp ⟨D, n0, P, k, H, ch, (List.range k).map fun j => .slice (some ⟨rows[j]?.getD 0, 0, none⟩) (m.has[j]?.getD []).length (m.has[j]?.getD []).length, .slice (some ⟨Q9, 0, none⟩) n3 n3, .slice none 0 0⟩ b j → w.heap.size + 3 ≤ j := fun j hj => by
        rcases hj with e | e | e | ⟨i, u, hu, hk⟩ | e | e
        · omega
        · simp only at e; omega
        · exact hvb j (by rw [e]; rfl)
        · simp only [List.getElem?_map] at hu
          cases hr : (List.range k)[i]? with
          | none => rw [hr] at hu; cases hu
          | some i' =>
            rw [hr] at hu
            obtain ⟨h2, h3⟩ := List.getElem?_eq_some_iff.1 hr
            rw [List.getElem_range] at h3
            subst h3
            cases hu
            rw [List.length_range] at h2
            simp only [Value.ownBlock, Option.some.injEq] at hk
            rw [← hk]
            have hir : i < rows.length := by rw [hT.rl]; exact h2
            rw [List.getElem?_eq_getElem hir, Option.getD_some]
            exact hrb _ (List.getElem_mem hir)
        · simp only [Value.ownBlock, Option.some.injEq] at e; omega
        · simp [Value.ownBlock] at e
      have p0 := h4.cell (i := 0) rfl
      have hcall := HD.out wr b _ hLr (fun j hj => by have := hfp j hj; omega) hS
      have HC := Lib.hid hcall
      have HFP := Lib.hid hfp
      have H4 := Lib.hid h4
      have H5 := Lib.hid h5
      clear hcall hfp h4 h5 hS hT hrb hvb
      go_wp2_with fail
      refine HC.out.mono ?_
      rintro r w6 ⟨hC6, hres⟩
      have k4 := H4.out.chg hC6 (fun e => by have := HFP.out _ e; omega)
      have k5 := H5.out.chg hC6 (fun e => by have := HFP.out _ e; omega)
      have hL6 : Later w w6 := ((Chg.of_later hLr).trans hC6).to_later fun j hj e => by have := HFP.out _ e; omega
      have hz6 : w.heap.size + 3 ≤ w6.heap.size := by have := k5.lt; omega
      cases res with
      | error k =>
        simp only at hres
        subst hres
        refine leaves_cons (f := 63) (args := #[.pointer (some ⟨w.heap.size + 1, 0, none⟩), .pointer (some ⟨w.heap.size + 1 + 1, 0, none⟩)]) (by simp) (by simp [go_sem]) ?_
        refine (mcatch_panic _ _ _ _ _ _ k4 k5).mono ?_
        rintro e u' w2 ⟨rfl, rfl, hw2⟩
        have g0 : Box w2 w6.heap.size emptyW 85 := by
          rw [hw2]; exact ((Box.new w6 _ _).set_other (by omega) _ _).set_other (by omega) _ _
        have g4 : Box w2 (w.heap.size + 1) #[.pointer (some ⟨w6.heap.size, 0, none⟩)] 79 := by
          rw [hw2]; have := ((k4.alloc (.cells emptyW 85)).set 0 (.pointer (some ⟨w6.heap.size, 0, none⟩))).set_other (g' := w.heap.size + 1 + 1) (by omega) 0 (.int .i64 k)
          simpa [emptyW] using this
        have g5 : Box w2 (w.heap.size + 1 + 1) #[.int .i64 k] 33 := by
          rw [hw2]; have := ((k5.alloc (.cells emptyW 85)).set_other (g' := w.heap.size + 1) (by omega) 0 (.pointer (some ⟨w6.heap.size, 0, none⟩))).set 0 (.int .i64 k)
          simpa [emptyW] using this
        have hL2 : Later w w2 := by rw [hw2]; exact ((hL6.alloc _).set (by omega) _).set (by omega) _
        have c4 := g4.cell (i := 0) rfl
        have c5 := g5.cell (i := 0) rfl
        clear hw2
        show Leaves _ _ _ _ _ (settle _) _
        exact ⟨.tuple #[.pointer (some ⟨w6.heap.size, 0, none⟩), .int .i64 k], by rw [results_cc rfl]; go_simp, hL2, _, rfl, g0⟩
      | ok s =>
        obtain ⟨rfl, x', hS', hfx⟩ := hres
        have c4 := k4.cell (i := 0) rfl
        have f4 := k4.frozen
        have hSp : ∀ j, x'.fp b j → w.heap.size + 3 ≤ j := fun j hj => by
          rcases hfx j hj with h | h
          · exact HFP.out j h
          · have := hLr.sz; have := H5.out.lt; omega
        have m4 := k4.set 0 (.pointer (some ⟨b, 0, none⟩))
        have m5 := k5.set_other (g' := w.heap.size + 1) (by omega) 0 (.pointer (some ⟨b, 0, none⟩))
        have hC7 : Chg (fun k => k = w.heap.size + 1) w6 (w6.setCell ⟨w.heap.size + 1, 0, none⟩ (.pointer (some ⟨b, 0, none⟩))) := Chg.set (S := fun k => k = w.heap.size + 1) (.refl _ _) rfl _
        have hS7 := hS'.chg hC7 (fun j hj e => by have := hSp j hj; omega) (hS'.sl.ne k4 (by decide))
        have hL7 : Later w (w6.setCell ⟨w.heap.size + 1, 0, none⟩ (.pointer (some ⟨b, 0, none⟩))) := hL6.set (by omega) _
        obtain ⟨w7, hw7⟩ : ∃ w7, w6.setCell ⟨w.heap.size + 1, 0, none⟩ (.pointer (some ⟨b, 0, none⟩)) = w7 := ⟨_, rfl⟩
        rw [hw7] at m4 m5 hS7 hL7
        have c5 := m5.cell (i := 0) rfl
        have f5 := m5.frozen
        have n4 := m4.set_other (g' := w.heap.size + 1 + 1) (by omega) 0 (.int .i64 0)
        have n5 := m5.set 0 (.int .i64 0)
        have hC8 : Chg (fun k => k = w.heap.size + 1 + 1) w7 (w7.setCell ⟨w.heap.size + 1 + 1, 0, none⟩ (.int .i64 0)) := Chg.set (S := fun k => k = w.heap.size + 1 + 1) (.refl _ _) rfl _
        have hS8 := hS7.chg hC8 (fun j hj e => by have := hSp j hj; omega) (hS7.sl.ne m5 (by decide))
        have hL8 : Later w (w7.setCell ⟨w.heap.size + 1 + 1, 0, none⟩ (.int .i64 0)) := hL7.set (by omega) _
        obtain ⟨w8, hw8⟩ : ∃ w8, w7.setCell ⟨w.heap.size + 1 + 1, 0, none⟩ (.int .i64 0) = w8 := ⟨_, rfl⟩
        rw [hw8] at n4 n5 hS8 hL8
        have N4 := Lib.hid (show Box w8 (w.heap.size + 1) #[.pointer (some ⟨b, 0, none⟩)] 79 by simpa using n4)
        have N5 := Lib.hid (show Box w8 (w.heap.size + 1 + 1) #[.int .i64 0] 33 by simpa using n5)
        have HS8 := Lib.hid hS8
        clear m4 m5 hS7 hL7 hC7 hC8 n4 n5 hS8 hS' k4 k5 hC6
        go_wp2
        refine leaves_cons (f := 63) (args := #[.pointer (some ⟨w.heap.size + 1, 0, none⟩), .pointer (some ⟨w.heap.size + 1 + 1, 0, none⟩)]) (by simp) (by simp [go_sem]) ?_
        refine (mcatch_idle _ _ _).mono ?_
        rintro e u' w9 ⟨rfl, rfl, rfl⟩
        have z4 := N4.out.cell (i := 0) rfl
        have z5 := N5.out.cell (i := 0) rfl
        show Leaves _ _ _ _ _ (settle _) _
        exact ⟨.tuple #[.pointer (some ⟨b, 0, none⟩), .int .i64 0], by rw [results_cc rfl]; go_simp, hL8, b, x', rfl, HS8.out, fun k hk => Nat.le_of_add_right_le (hSp k hk)⟩
end Go.Proofs.Ytdheckfndldbmaa

namespace Go.Proofs.Ytdheckfndldbmaa
open Go.RowKit
attribute [local go_sem] merge_t merge_f merge_a merge_o

set_option maxRecDepth 100000 in
set_option maxHeartbeats 2000000 in
theorem doClo_c (N b bw : Nat) (x : WX) (m : MonD) (tk : List E2) (kd gi s g : Int) (w : World) (hN : N ≤ 900000) (hB : WM N m tk) (h : WSt w b x m tk) (hw : Box w bw #[.int .i64 kd, .int .i64 gi, .int .i64 s, .int .u64 g] 45) :
    Calls Try.prog 38 (#[.pointer (some ⟨b, 0, none⟩)] ++ #[.pointer (some ⟨bw, 0, none⟩)]) w (MPost b x w (doesD m tk (kd, gi, s, g))) := by
  have c0 := hw.cell (i := 0) rfl
  have c1 := hw.cell (i := 1) rfl
  have c2 := hw.cell (i := 2) rfl
  have c3 := hw.cell (i := 3) rfl
  have cD := wdoes_c N b x m tk kd gi s g w hN (hB.wb h) h
  have CD := Lib.hid cD
  clear hw h cD
  go_enter Try.func38, Try.ntmps38
  go_wp2_with fail
  refine CD.out.mono ?_
  rintro r w7 hM
  rcases hM.mk' with rfl | ⟨k, rfl⟩
  · go_wp2
    refine bodyPost_end (results_none rfl _ _ _) rfl ?_
    exact hM
  · exact ⟨rfl, hM⟩
theorem cf_do1 (args : Array Value) (W : World) : (callFunc 38 args).run Try.prog W = .ok (.enter 38 args) W := by go_simp

def doM (m : MonD) (y : W4) : Except Int (MonD × List E2) := if monOk m then doesD m [] y else .error 220
/-- old blocks, but for slabs -/
def Old (w w' : World) (i : Nat) : Prop := i < w.heap.size ∧ ∃ cs t, Box w' i cs t ∧ t ≠ 47
def DoP (B : Nat) (res : Except Int (MonD × List E2)) (w : World) (r : Ending) (w' : World) : Prop := Later w w' ∧
  match res with
  | .error k => r = .returned (.tuple #[.agg #[.slice none 0 0, .slice none 0 0, .slice none 0 0, .slice none 0 0], .agg #[.int .i64 0, .int .u64 0], .int .i64 k])
  | .ok s => ∃ v', r = .returned (.tuple #[v', .agg #[.int .i64 (s.2.getLastD (0, 0)).1, .int .u64 (s.2.getLastD (0, 0)).2], .int .i64 0]) ∧ ∀ V, Chg (Old w w') w' V → RMon B V v' s.1
/-- what a call of tries hands over: the watcher's box, its parts -/
def TkP (W : World) (b : Nat) (f0 f1 f2 f3 : Value) (A : Option Addr) (n c : Nat) (tk : List E2) : Prop :=
  Box W b #[f0, f1, f2, f3, .slice A n c] 85 ∧ Rd 2 encE W A n tk ∧ n ≤ c ∧ c ≤ 9223372036854775807
theorem Box.set4 {W : World} {g : Nat} {t : TypeId} {z0 z1 z2 z3 : Value} (h : Box W g #[z0, z1, z2, z3] t) (v0 v1 v2 v3 : Value) : Box ((((W.setCell ⟨g, 0, none⟩ v0).setCell ⟨g, 1, none⟩ v1).setCell ⟨g, 2, none⟩ v2).setCell ⟨g, 3, none⟩ v3) g #[v0, v1, v2, v3] t := by
  simpa using (((h.set 0 v0).set 1 v1).set 2 v2).set 3 v3
theorem Box.set2 {W : World} {g : Nat} {t : TypeId} {z0 z1 : Value} (h : Box W g #[z0, z1] t) (v0 v1 : Value) : Box ((W.setCell ⟨g, 0, none⟩ v0).setCell ⟨g, 1, none⟩ v1) g #[v0, v1] t := by
  simpa using (h.set 0 v0).set 1 v1

/-! the last region: two stores among loads -/
def doR (b4 b5 k : Nat) (W W' : World) : Prop := if k = 6 then Chg (fun i => i = b4) W W' else k = 7 ∧ Chg (fun i => i = b5) W W'
def doN (b4 b5 : Nat) : Nat → World → Prop
  | 6, W => Box W b4 #[.slice none 0 0, .slice none 0 0, .slice none 0 0, .slice none 0 0] 32
  | 7, W => Box W b5 #[.int .i64 0, .int .u64 0] 43
  | _, _ => True
def doV (b4 b5 : Nat) (f0 f1 f2 f3 : Value) (e : E2) : Nat → (Nat → Gh) → World → Prop
  | 6, _, W => Box W b4 #[f0, f1, f2, f3] 32
  | 7, _, W => Box W b5 #[.int .i64 e.1, .int .u64 e.2] 43
  | _, _, _ => True
def doE (i : Nat) : Bool := i == 6 || i == 7
section
variable {b4 b5 : Nat} {f0 f1 f2 f3 : Value} {e : E2} {w : World}
theorem doSL : ∀ i W W', Chg (fun i => i = b4 ∨ i = b5) w W → doR b4 b5 i W W' → Chg (fun i => i = b4 ∨ i = b5) w W' := fun i W W' h hR => by
  unfold doR at hR; split at hR
  · exact h.trans (hR.mono fun _ _ e => .inl e)
  · exact h.trans (hR.2.mono fun _ _ e => .inr e)
theorem doVL (hne : b4 ≠ b5) : ∀ i j t W W', i ≠ j → doV b4 b5 f0 f1 f2 f3 e j t W → doR b4 b5 i W W' → doV b4 b5 f0 f1 f2 f3 e j t W' := fun i j t W W' hij h hR => by
  unfold doV at *
  split at h
  · unfold doR at hR; rw [if_neg hij] at hR; exact h.chg hR.2 hne
  · unfold doR at hR
    split at hR
    · exact h.chg hR hne.symm
    · exact absurd hR.1 hij
  · trivial
theorem doNL (hne : b4 ≠ b5) : ∀ i j W W', i ≠ j → doN b4 b5 j W → doR b4 b5 i W W' → doN b4 b5 j W' := fun i j W W' hij h hR => by
  unfold doN at *
  split at h
  · unfold doR at hR; rw [if_neg hij] at hR; exact h.chg hR.2 hne
  · unfold doR at hR
    split at hR
    · exact h.chg hR hne.symm
    · exact absurd hR.1 hij
  · trivial
theorem doLoc : ∀ j (t t' : Nat → Gh) W, t j = t' j → (∀ k, k ∈ gU0 j → t k = t' k) → doV b4 b5 f0 f1 f2 f3 e j t W → doV b4 b5 f0 f1 f2 f3 e j t' W := by
  intro j t t' W _ _ hV
  unfold doV at *
  split at hV <;> simp_all
end

theorem doN0 {b4 b5 : Nat} {w : World} (j : Nat) (h4 : Box w b4 #[.slice none 0 0, .slice none 0 0, .slice none 0 0, .slice none 0 0] 32) (h5 : Box w b5 #[.int .i64 0, .int .u64 0] 43) : doN b4 b5 j w.drew := by
  unfold doN
  split
  · exact h4.drew
  · exact h5.drew
  · trivial
theorem doR6 {b4 b5 : Nat} {v0 v1 v2 v3 : Value} (W : World) : doR b4 b5 6 W ((((W.setCell ⟨b4, 0, none⟩ v0).setCell ⟨b4, 1, none⟩ v1).setCell ⟨b4, 2, none⟩ v2).setCell ⟨b4, 3, none⟩ v3) := by
  show Chg (fun i => i = b4) _ _
  exact (((Chg.set (S := fun i => i = b4) (.refl _ _) rfl _).set rfl _).set rfl _).set rfl _
theorem doR7 {b4 b5 : Nat} {v0 v1 : Value} (W : World) : doR b4 b5 7 W ((W.setCell ⟨b5, 0, none⟩ v0).setCell ⟨b5, 1, none⟩ v1) := by
  refine ⟨rfl, ?_⟩
  exact (Chg.set (S := fun i => i = b5) (.refl _ _) rfl _).set rfl _

theorem do_box (w : World) (x0 x1 x2 x3 : Value) (kd gi s g : Int) : ∃ wb, Hid ((((w.alloc (.cells #[x0, x1, x2, x3] 32)).alloc (.cells #[.int .i64 kd, .int .i64 gi, .int .i64 s, .int .u64 g] 45)).alloc (.cells #[.slice none 0 0, .slice none 0 0, .slice none 0 0, .slice none 0 0] 32)).alloc (.cells #[.int .i64 0, .int .u64 0] 43) = wb) ∧ Later w wb ∧ wb.heap.size = w.heap.size + 4 ∧
    Box wb w.heap.size #[x0, x1, x2, x3] 32 ∧ Box wb (w.heap.size + 1) #[.int .i64 kd, .int .i64 gi, .int .i64 s, .int .u64 g] 45 ∧ Box wb (w.heap.size + 1 + 1) #[.slice none 0 0, .slice none 0 0, .slice none 0 0, .slice none 0 0] 32 ∧ Box wb (w.heap.size + 1 + 1 + 1) #[.int .i64 0, .int .u64 0] 43 := by
  refine ⟨_, rfl, ((((Later.refl _).alloc _).alloc _).alloc _).alloc _, by simp, (((Box.new _ _ _).alloc _).alloc _).alloc _, ?_, ?_, ?_⟩
  · have := Box.new (w.alloc (.cells #[x0, x1, x2, x3] 32)) #[.int .i64 kd, .int .i64 gi, .int .i64 s, .int .u64 g] 45
    rw [World.size_alloc] at this; exact (this.alloc _).alloc _
  · have := Box.new ((w.alloc (.cells #[x0, x1, x2, x3] 32)).alloc (.cells #[.int .i64 kd, .int .i64 gi, .int .i64 s, .int .u64 g] 45)) #[.slice none 0 0, .slice none 0 0, .slice none 0 0, .slice none 0 0] 32
    simp only [World.size_alloc] at this; exact this.alloc _
  · have := Box.new (((w.alloc (.cells #[x0, x1, x2, x3] 32)).alloc (.cells #[.int .i64 kd, .int .i64 gi, .int .i64 s, .int .u64 g] 45)).alloc (.cells #[.slice none 0 0, .slice none 0 0, .slice none 0 0, .slice none 0 0] 32)) #[.int .i64 0, .int .u64 0] 43
    simpa only [World.size_alloc] using this

theorem getLast_take (tk : List E2) (k : Nat) (hk : k < tk.length) : (tk.take (k + 1)).getLastD (0, 0) = tk[k]?.getD (0, 0) := by
  rw [List.take_succ_eq_append_getElem hk, List.getLastD_eq_getLast?, List.getLast?_concat, Option.getD_some, List.getElem?_eq_getElem hk, Option.getD_some]

set_option maxRecDepth 100000 in
set_option maxHeartbeats 8000000 in
/-- behind tries, whatever came of it -/
theorem do_after (B : Nat) (v fv : Value) (m : MonD) (kd gi s g : Int) (w : World) (hM : RMon B w v m) (hfv : fv = .func (.func 38) #[] #[.pointer (some ⟨w.heap.size + 1, 0, none⟩)]) (R : Ending → World → Prop)
    (hT : ∀ W, Later w W → Box W (w.heap.size + 1) #[.int .i64 kd, .int .i64 gi, .int .i64 s, .int .u64 g] 45 → W.heap.size = w.heap.size + 4 → Box W (w.heap.size + 1 + 1) #[.slice none 0 0, .slice none 0 0, .slice none 0 0, .slice none 0 0] 32 → Box W (w.heap.size + 1 + 1 + 1) #[.int .i64 0, .int .u64 0] 43 → Calls Try.prog 37 #[v, fv] W fun r W' => Later W W' ∧ ∃ b F0 F1 F2 F3 p0 p1 p2 p3 o0 o1 o2 o3 A n c tk er, r = .returned (.tuple #[.pointer (some ⟨b, 0, none⟩), .int .i64 er]) ∧ TkP W' b (.slice F0 p0 o0) (.slice F1 p1 o1) (.slice F2 p2 o2) (.slice F3 p3 o3) A n c tk ∧
      ∀ W'', Chg (fun i => i = w.heap.size + 1 + 1 ∨ i = w.heap.size + 1 + 1 + 1) W' W'' → Later w W'' → R (.returned (.tuple #[.agg #[.slice F0 p0 o0, .slice F1 p1 o1, .slice F2 p2 o2, .slice F3 p3 o3], .agg #[.int .i64 (tk.getLastD (0, 0)).1, .int .u64 (tk.getLastD (0, 0)).2], .int .i64 er])) W'') :
    Calls Try.prog 14 #[v, .agg #[.int .i64 kd, .int .i64 gi, .int .i64 s, .int .u64 g]] w R := by
  have hmf : ∀ (fn : Fn) (first cap : Array Value) (w : World), (Instr.makeFunc fn first cap).run Try.prog w = .ok (.func fn first cap) w := fun _ _ _ _ => rfl
  obtain ⟨A0, n0, c0, A1, n1, c1, A2, n2, c2, A3, n3, c3, rfl, -, -, -, -, -, -⟩ := hM
  obtain ⟨wb, hwb, hL, hwz, b2, b3, b4, b5⟩ := do_box w (.slice A0 n0 c0) (.slice A1 n1 c1) (.slice A2 n2 c2) (.slice A3 n3 c3) kd gi s g
  have B4 := Lib.hid b4
  have B5 := Lib.hid b5
  have B3 := Lib.hid b3
  have q0 := cel (b2.cell (i := 0) rfl)
  have q1 := cel (b2.cell (i := 1) rfl)
  have q2 := cel (b2.cell (i := 2) rfl)
  have q3 := cel (b2.cell (i := 3) rfl)
  have Hwz := Lib.hid hwz
  have cT := hT wb hL b3 hwz b4 b5
  have CT := Lib.hid cT
  clear b2 b3 b4 b5 hwz hT cT
  subst hfv
  go_enter Try.func14, Try.ntmps14
  go_wp2_with fail
  rw [hwb.out]
  refine CT.out.mono ?_
  rintro e w1 ⟨hL1, b, F0, F1, F2, F3, p0, p1, p2, p3, o0, o1, o2, o3, A, n, c, tk, er, rfl, ⟨hbx, hRd, hnc, hcm⟩, hR⟩
  have HR := Lib.hid hR
  have HRd := Lib.hid hRd
  have Hx : Hid (tk.length = n) := hRd.1
  have d4 := cel (hbx.cell (i := 4) rfl)
  have HBX := Lib.hid hbx
  have hzz := hL1.sz
  clear hR hRd hbx
  have hb9 := Box.new w1 #[.int .i64 0, .int .u64 0] 43
  have hL9 : Later w1 (w1.alloc (.cells #[.int .i64 0, .int .u64 0] 43)) := (Later.refl _).alloc _
  obtain ⟨b9, hb9e⟩ : ∃ b9, w1.heap.size = b9 := ⟨_, rfl⟩
  obtain ⟨w9, hw9⟩ : ∃ w9, w1.alloc (.cells #[.int .i64 0, .int .u64 0] 43) = w9 := ⟨_, rfl⟩
  rw [hw9] at hb9 hL9
  rw [hb9e] at hb9
  go_wp2
  go_loopw [23] (fun i wr => ∃ k : Nat, k ≤ n ∧ i = .int .i64 k ∧ Later w1 wr ∧ Box wr b9 #[.int .i64 ((tk.take k).getLastD (0, 0)).1, .int .u64 ((tk.take k).getLastD (0, 0)).2] 43) (fun i _ => n - (intOf i).toNat)
  case atStart => exact ⟨0, Nat.zero_le _, rfl, hL9, hb9⟩
  case round =>
    obtain ⟨k, hk, rfl, hLr, h9⟩ := hrel
    have H9 := Lib.hid h9
    by_cases hlt : k < n
    · obtain ⟨q, qo, rfl, x0, x1⟩ := HRd.out.atE k hlt
      obtain ⟨wc, hwc, hL2, _, f2, _⟩ := box1 wr #[.int .i64 (tk[k]?.getD (0, 0)).1, .int .u64 (tk[k]?.getD (0, 0)).2] 43
      have e0 := f2 0 (.int .i64 (tk[k]?.getD (0, 0)).1) rfl
      have e1 := f2 1 (.int .u64 (tk[k]?.getD (0, 0)).2) rfl
      have g9 := h9.later hL2
      have c0 := g9.cell (i := 0) rfl
      have c1 := g9.cell (i := 1) rfl
      have z0 := g9.frozen
      have k9 : ∀ e : E2, e = tk[k]?.getD (0, 0) → Box ((wc.setCell ⟨b9, 0, none⟩ (.int .i64 (tk[k]?.getD (0, 0)).1)).setCell ⟨b9, 1, none⟩ (.int .u64 (tk[k]?.getD (0, 0)).2)) b9 #[.int .i64 e.1, .int .u64 e.2] 43 := fun e he => by subst he; exact g9.set2 _ _
      have kL : Later w1 ((wc.setCell ⟨b9, 0, none⟩ (.int .i64 (tk[k]?.getD (0, 0)).1)).setCell ⟨b9, 1, none⟩ (.int .u64 (tk[k]?.getD (0, 0)).2)) := ((hLr.trans hL2).set (by omega) _).set (by omega) _
      have K9 := Lib.hid (k9 _ (getLast_take tk k (by rw [Hx.out]; exact hlt)))
      have hwe := hwc.out
      clear f2 h9 g9 k9 hwc
      go_wp2
      go_roundw
      case rel => exact ⟨k + 1, by omega, by go_num, kL, K9.out⟩
      case measure => simp [intOf]; omega
    · have hbe : tk.take k = tk := List.take_of_length_le (by rw [Hx.out]; omega)
      obtain ⟨e, he⟩ : ∃ e : E2, tk.getLastD (0, 0) = e := ⟨_, rfl⟩
      rw [hbe, he] at h9
      have hbw := HBX.out.later hLr
      have k4 := (B4.out.later hL1).later hLr
      have k5 := (B5.out.later hL1).later hLr
      have n4 : ¬ (b = w.heap.size + 1 + 1 ∨ b = w.heap.size + 1 + 1 + 1) := (by rintro (e | e); exact absurd e (hbw.ne k4 (by decide)); exact absurd e (hbw.ne k5 (by decide)))
      have n9 : ¬ (b9 = w.heap.size + 1 + 1 ∨ b9 = w.heap.size + 1 + 1 + 1) := (by have := Hwz.out; omega)
      have y0 := celS (S := fun i => i = w.heap.size + 1 + 1 ∨ i = w.heap.size + 1 + 1 + 1) n4 (hbw.cell (i := 0) rfl)
      have y1 := celS (S := fun i => i = w.heap.size + 1 + 1 ∨ i = w.heap.size + 1 + 1 + 1) n4 (hbw.cell (i := 1) rfl)
      have y2 := celS (S := fun i => i = w.heap.size + 1 + 1 ∨ i = w.heap.size + 1 + 1 + 1) n4 (hbw.cell (i := 2) rfl)
      have y3 := celS (S := fun i => i = w.heap.size + 1 + 1 ∨ i = w.heap.size + 1 + 1 + 1) n4 (hbw.cell (i := 3) rfl)
      have v0 := celS (S := fun i => i = w.heap.size + 1 + 1 ∨ i = w.heap.size + 1 + 1 + 1) n9 (h9.cell (i := 0) rfl)
      have v1 := celS (S := fun i => i = w.heap.size + 1 + 1 ∨ i = w.heap.size + 1 + 1 + 1) n9 (h9.cell (i := 1) rfl)
      have H45 : Hid (Box wr (w.heap.size + 1 + 1) #[.slice none 0 0, .slice none 0 0, .slice none 0 0, .slice none 0 0] 32 ∧ Box wr (w.heap.size + 1 + 1 + 1) #[.int .i64 0, .int .u64 0] 43) := ⟨k4, k5⟩
      obtain ⟨b4, hb4⟩ : ∃ b4, w.heap.size + 1 + 1 = b4 := ⟨_, rfl⟩
      have hne : b4 ≠ b4 + 1 := by omega
      clear hbw k4 k5 h9 H9
      rw [hb4] at n4 n9 y0 y1 y2 y3 v0 v1 H45
      go_wp2
      refine Y.region_full (S := (Chg (fun i => i = b4 ∨ i = b4 + 1) wr)) (R := (doR b4 (b4 + 1))) (N := (doN b4 (b4 + 1))) (Pn := (fun _ _ => False)) (af := ?_) 8 (fun _ _ => undef) (doV b4 (b4 + 1) (.slice F0 p0 o0) (.slice F1 p1 o1) (.slice F2 p2 o2) (.slice F3 p3 o3) e) doE gU0 (by kernel_rfl) (by kernel_rfl) (by kernel_rfl) (by decide) (by kernel_rfl) (fun _ h => h.drew) (Chg.refl _ _) doSL (doVL hne) (doNL hne) doLoc (fun j _ => doN0 j H45.out.1 H45.out.2) ?_ (fun _ _ _ _ h => h.elim) ?_
      rotate_left
      · intro t
        repeat (first
          | (refine Y.SeqT.val (v := ?_) (by rfl) (by rfl) (fun W hW => ?_) ?_; rotate_left; (· (go_simp; try with_reducible rfl)); try simp only [Act.put, List.setIfInBounds_toArray, List.set_cons_zero, List.set_cons_succ])
          | (refine Y.SeqT.skip (by rfl) (by rfl) ?_; try simp only [Act.put, List.setIfInBounds_toArray, List.set_cons_zero, List.set_cons_succ])
          | (refine Y.SeqT.store (by rfl) (by rfl) (fun _ => by rfl) (fun W hW hN hd => ?_) ?_; (· (have q : Box W b4 _ _ := hN; have q0 := q.cell (i := 0) rfl; have q1 := q.cell (i := 1) rfl; have q2 := q.cell (i := 2) rfl; have q3 := q.cell (i := 3) rfl; have qf := q.frozen; exact ⟨(((W.setCell ⟨b4, 0, none⟩ (.slice F0 p0 o0)).setCell ⟨b4, 1, none⟩ (.slice F1 p1 o1)).setCell ⟨b4, 2, none⟩ (.slice F2 p2 o2)).setCell ⟨b4, 3, none⟩ (.slice F3 p3 o3), by go_simp, q.set4 _ _ _ _, doR6 _⟩)); try simp only [Act.put, List.setIfInBounds_toArray, List.set_cons_zero, List.set_cons_succ])
          | (refine Y.SeqT.store (by rfl) (by rfl) (fun _ => by rfl) (fun W hW hN hd => ?_) ?_; (· (have q : Box W (b4 + 1) _ _ := hN; have q0 := q.cell (i := 0) rfl; have q1 := q.cell (i := 1) rfl; have qf := q.frozen; exact ⟨(W.setCell ⟨b4 + 1, 0, none⟩ (.int .i64 e.1)).setCell ⟨b4 + 1, 1, none⟩ (.int .u64 e.2), by go_simp, q.set2 _ _, doR7 _⟩)); try simp only [Act.put, List.setIfInBounds_toArray, List.set_cons_zero, List.set_cons_succ])
          )
        exact Y.SeqT.nil _
      intro t W hW hV
      refine wpList_is (l' := [_]) rfl ?_
      have g4 : Box W b4 _ _ := hV 6 (by decide) rfl
      have g5 : Box W (b4 + 1) _ _ := hV 7 (by decide) rfl
      have q0 := g4.cell (i := 0) rfl
      have q1 := g4.cell (i := 1) rfl
      have q2 := g4.cell (i := 2) rfl
      have q3 := g4.cell (i := 3) rfl
      have q4 := g5.cell (i := 0) rfl
      have q5 := g5.cell (i := 1) rfl
      clear hV g4 g5
      go_wp2
      refine bodyPost_ret (v := .tuple #[.agg #[.slice F0 p0 o0, .slice F1 p1 o1, .slice F2 p2 o2, .slice F3 p3 o3], .agg #[.int .i64 e.1, .int .u64 e.2], .int .i64 er]) (by rw [results_cct rfl]; go_simp) rfl ?_
      have hf := HR.out W
      rw [he] at hf
      have hz := Hwz.out
      have hW' : Chg (fun i => i = b4 ∨ i = b4 + 1) w1 W := (Chg.of_later hLr).trans hW
      exact hf (hW'.mono fun i _ h => by omega) (((Chg.of_later (hL.trans hL1)).trans hW').to_later fun i hi h => by omega)
  

set_option maxRecDepth 100000 in
theorem mdo_c (B : Nat) (v : Value) (m : MonD) (kd gi s g : Int) (w : World) (hB : B ≤ 800000) (hM : RMon B w v m) (h0 : ∀ s ∈ m.slabs, 0 ≤ s.2) :
    Calls Try.prog 14 #[v, .agg #[.int .i64 kd, .int .i64 gi, .int .i64 s, .int .u64 g]] w (DoP (B + 129) (doM m (kd, gi, s, g)) w) := by
  refine do_after B v _ m kd gi s g w hM rfl _ fun W hW hbx hz hb4 hb5 => ?_
  have hMW := hM.later hW
  cases hOk : monOk m with
  | false =>
    refine (mtries_bad B v _ m W (by omega) hMW hOk (.error 220) rfl).mono ?_
    rintro r W' ⟨hL, b, rfl, hb⟩
    refine ⟨hL, b, none, none, none, none, 0, 0, 0, 0, 0, 0, 0, 0, none, 0, 0, [], 220, rfl, ⟨hb, Rd.nil _ _ _, Nat.le_refl _, by omega⟩, fun W'' _ hL'' => ⟨hL'', ?_⟩⟩
    simp only [doM, hOk, Bool.false_eq_true, if_false]
    rfl
  | true =>
    have hp := monOk_parts hOk
    have hb : ∀ l ∈ m.has, l.length ≤ B := by obtain ⟨A0, n0, c0, A1, n1, c1, A2, n2, c2, A3, n3, c3, -, -, -, -, -, hb, -⟩ := hM; exact hb.2.2.2.2
    have hWM : WM B m [] := ⟨hp.2.2.1, hp.2.2.2.2.1, hp.1, h0, hb, Nat.zero_le _⟩
    have hdo : doM m (kd, gi, s, g) = doesD m [] (kd, gi, s, g) := by rw [doM, if_pos hOk]
    refine (mtries_c B v m _ _ W (by omega) hMW hOk (doesD m [] (kd, gi, s, g)) cf_do1 fun V b x hV hfx hS => doClo_c B b _ x m [] kd gi s g V (by omega) hWM hS (hbx.later hV)).mono ?_
    rintro r W' ⟨hL, hP⟩
    rw [hdo]
    cases hd : doesD m [] (kd, gi, s, g) with
    | error k =>
      rw [hd] at hP
      obtain ⟨b, rfl, hb⟩ := hP
      exact ⟨hL, b, none, none, none, none, 0, 0, 0, 0, 0, 0, 0, 0, none, 0, 0, [], k, rfl, ⟨hb, Rd.nil _ _ _, Nat.le_refl _, by omega⟩, fun W'' _ hL'' => ⟨hL'', rfl⟩⟩
    | ok s =>
      rw [hd] at hP
      obtain ⟨b, x, rfl, hS, hfx⟩ := hP
      have hWM' := doesD_wm hWM hd
      obtain ⟨At, ct, et, h31, h32, h33⟩ := rd_of_own enc_E rfl hS.tu
      obtain ⟨A3, n3, c3, e3, -, -, -, -⟩ := hS.rmon (hWM'.wb hS)
      have hbx' := hS.bx
      rw [et, e3] at hbx'
      unfold maxLen at h32
      refine ⟨hL, b, _, _, _, _, _, _, _, _, _, _, _, _, _, _, _, s.2, 0, rfl, ⟨hbx', h33, h31, by omega⟩, fun W'' hC hL'' => ⟨hL'', ?_⟩⟩
      have hS'' := hS.chg hC (fun k hk h => by have := hfx k hk; omega) (by rintro (e | e); exact absurd e (hS.sl.ne (hb4.later hL) (by decide)); exact absurd e (hS.sl.ne (hb5.later hL) (by decide)))
      have hzz := hW.sz
      refine ⟨_, rfl, fun V hCV => ?_⟩
      have hSV := hS''.chg hCV (fun k hk h => by have := hfx k hk; have := h.1; omega) (fun ⟨_, cs, t, h1, h2⟩ => absurd rfl (h1.ne hS''.sl h2))
      obtain ⟨A3', n3', c3', e3', -, -, -, hR⟩ := hSV.rmon (hWM'.wb hSV)
      rw [e3] at e3'
      cases e3'
      exact hR
end Go.Proofs.Ytdheckfndldbmaa

namespace Go.Proofs.Ytdheckfndldbmaa
open Go.RowKit
attribute [local go_sem] merge_t merge_f merge_a merge_o

def runL : List W4 → MonD → List E2 → Except Int (MonD × List E2)
  | [], m, tk => .ok (m, tk)
  | y :: l, m, tk => match doesD m tk y with
    | .error k => .error k
    | .ok s => runL l s.1 s.2
theorem runL_snoc (l : List W4) (y : W4) : ∀ (m : MonD) (tk : List E2), runL (l ++ [y]) m tk = match runL l m tk with
    | .error k => .error k
    | .ok s => doesD s.1 s.2 y := by
  induction l with
  | nil => intro m tk; simp only [List.nil_append, runL]; cases doesD m tk y <;> rfl
  | cons z l ih =>
    intro m tk
    simp only [List.cons_append, runL]
    cases doesD m tk z with
    | error k => rfl
    | ok s => exact ih s.1 s.2
theorem runL_take (l : List W4) (k : Nat) (hk : k < l.length) (m : MonD) (tk : List E2) : runL (l.take (k + 1)) m tk = match runL (l.take k) m tk with
    | .error e => .error e
    | .ok s => doesD s.1 s.2 (l[k]?.getD (0, 0, 0, 0)) := by
  rw [List.take_succ_eq_append_getElem hk, runL_snoc, List.getElem?_eq_getElem hk, Option.getD_some]
theorem runL_err (l : List W4) (k : Nat) (m : MonD) (tk : List E2) (e : Int) (h : runL (l.take k) m tk = .error e) : runL l m tk = .error e := by
  have key : ∀ (a b : List W4) (m : MonD) (tk : List E2), runL a m tk = .error e → runL (a ++ b) m tk = .error e := by
    intro a
    induction a with
    | nil => intro b m tk h; simp [runL] at h
    | cons y a ih =>
      intro b m tk h
      simp only [List.cons_append, runL] at h ⊢
      cases hd : doesD m tk y with
      | error k => rw [hd] at h; exact h
      | ok s => rw [hd] at h; exact ih b s.1 s.2 h
  have := key (l.take k) (l.drop k) m tk h
  rwa [List.take_append_drop] at this

theorem runL_wm : ∀ (l : List W4) {N : Nat} {m m' : MonD} {tk tk' : List E2}, WM N m tk → runL l m tk = .ok (m', tk') → WM (N + l.length) m' tk'
  | [], N, m, m', tk, tk', h, hd => by simp only [runL] at hd; cases hd; exact h
  | y :: l, N, m, m', tk, tk', h, hd => by
    simp only [runL] at hd
    cases hy : doesD m tk y with
    | error k => rw [hy] at hd; cases hd
    | ok s =>
      rw [hy] at hd
      have := runL_wm l (doesD_wm h hy) hd
      rw [List.length_cons, show N + (l.length + 1) = N + 1 + l.length by omega]
      exact this

/-- k watches are done -/
def RunSt (N b : Nat) (x : WX) (w wr : World) (m : MonD) (tk : List E2) (l : List W4) (k : Nat) : Prop :=
  ∃ m' tk' x', runL (l.take k) m tk = .ok (m', tk') ∧ WM (N + k) m' tk' ∧ WSt wr b x' m' tk' ∧ Chg (x.fp b) w wr ∧ ∀ i, x'.fp b i → x.fp b i ∨ w.heap.size ≤ i

set_option maxRecDepth 100000 in
set_option maxHeartbeats 2000000 in
theorem runClo_c (N b bl : Nat) (x : WX) (m : MonD) (tk : List E2) (AL : Option Addr) (nl cl : Nat) (l : List W4) (w0 w : World) (hN : N + nl ≤ 900000) (hB : WM N m tk) (h : WSt w b x m tk) (hl : Box w0 bl #[.slice AL nl cl] 30) (hR : Rd 4 encW w0 AL nl l)
    (hL0 : Later w0 w) (hfx : ∀ k, x.fp b k → w0.heap.size ≤ k) :
    Calls Try.prog 59 (#[.pointer (some ⟨b, 0, none⟩)] ++ #[.pointer (some ⟨bl, 0, none⟩)]) w (MPost b x w (runL l m tk)) := by
  have HR := Lib.hid hR
  have Hx : Hid (l.length = nl) := hR.1
  have c0 := celw hL0 (cel (hl.cell (i := 0) rfl))
  have HL0 := Lib.hid hL0
  have HFX := Lib.hid hfx
  have HB := Lib.hid hB
  have HS := Lib.hid h
  clear hR hl hL0 hfx hB h
  go_enter Try.func59, Try.ntmps59
  go_wp2
  go_loopw [7] (fun i wr => ∃ k : Nat, k ≤ nl ∧ i = .int .i64 k ∧ RunSt N b x w wr m tk l k) (fun i _ => nl - (intOf i).toNat)
  case atStart => exact ⟨0, Nat.zero_le _, rfl, m, tk, x, by simp [runL], HB.out, HS.out, Chg.refl _ _, fun i h => .inl h⟩
  case round =>
    obtain ⟨k, hk, rfl, hst⟩ := hrel
    have HST := Lib.hid hst
    clear hst
    by_cases hlt : k < nl
    · obtain ⟨q, qo, rfl, x0, x1, x2, x3⟩ := HR.out.atW k hlt
      obtain ⟨y, hy⟩ : ∃ y : W4, l[k]?.getD (0, 0, 0, 0) = y := ⟨_, rfl⟩
      rw [hy] at x0 x1 x2 x3
      have HY := Lib.hid hy
      obtain ⟨kd, gi, s, g⟩ := y
      have hLr : Later w0 wr := by
        obtain ⟨m', tk', x', h1, h2, h3, h4, h5⟩ := HST.out
        exact ((Chg.of_later HL0.out).trans' h4 (S := fun _ => False) (fun i hi h => absurd (HFX.out i h) (by omega))).to_later (fun _ _ h => h)
      have x0' := celw hLr x0
      have x1' := celw hLr x1
      have x2' := celw hLr x2
      have x3' := celw hLr x3
      obtain ⟨wc, hwc, hL2, _, f2, _⟩ := box1 wr #[.int .i64 kd, .int .i64 gi, .int .i64 s, .int .u64 g] 45
      have e0 := f2 0 _ rfl
      have e1 := f2 1 _ rfl
      have e2 := f2 2 _ rfl
      have e3 := f2 3 _ rfl
      have CD : Hid (Calls Try.prog 39 #[.pointer (some ⟨b, 0, none⟩), .agg #[.int .i64 kd, .int .i64 gi, .int .i64 s, .int .u64 g]] wc fun r w' => MPost b x w (runL (l.take (k + 1)) m tk) r w' ∧ (∀ u, r = .returned u → RunSt N b x w w' m tk l (k + 1))) := by
        obtain ⟨m', tk', x', h1, h2, h3, h4, h5⟩ := HST.out
        have h3' := h3.later hL2
        have h4' := h4.later hL2
        refine (wdoes_c (N + k) b x' m' tk' kd gi s g wc (by omega) (h2.wb h3') h3').mono fun r w' hM => ?_
        have hM' := MPost.trans h4' h5 hM
        have hrun : runL (l.take (k + 1)) m tk = doesD m' tk' (kd, gi, s, g) := by rw [runL_take l k (by rw [Hx.out]; exact hlt), h1, HY.out]
        rw [hrun]
        refine ⟨hM', fun u hu => ?_⟩
        have h6 := hM'.2
        cases hd : doesD m' tk' (kd, gi, s, g) with
        | error e => rw [hd] at h6; rw [hu] at h6; cases h6
        | ok s =>
          rw [hd] at h6
          obtain ⟨-, x'', h7, h8⟩ := h6
          exact ⟨s.1, s.2, x'', by rw [hrun, hd], doesD_wm h2 hd, h7, hM'.1, h8⟩
      have hwe := hwc.out
      clear x0 x1 x2 x3 f2 hwc hy
      go_wp2_with fail
      refine CD.out.mono ?_
      rintro r w7 ⟨hM, hS7⟩
      rcases hM.mk' with rfl | ⟨e, rfl⟩
      · have HS7 := Lib.hid (hS7 _ rfl)
        clear hS7 hM
        go_wp2
        go_roundw
        case rel => exact ⟨k + 1, by omega, by go_num, HS7.out⟩
        case measure => simp [intOf]; omega
      · refine ⟨rfl, ?_⟩
        have h6 := hM.2
        refine ⟨hM.1, ?_⟩
        cases hd : runL (l.take (k + 1)) m tk with
        | error e' => rw [hd] at h6; rw [runL_err l (k + 1) m tk e' hd]; exact h6
        | ok s => rw [hd] at h6; cases h6.1
    · go_wp2
      refine bodyPost_end (results_none rfl _ _ _) rfl ?_
      obtain ⟨m', tk', x', h1, h2, h3, h4, h5⟩ := HST.out
      rw [List.take_of_length_le (by rw [Hx.out]; omega)] at h1
      rw [h1]
      exact ⟨h4, rfl, x', h3, h5⟩
end Go.Proofs.Ytdheckfndldbmaa

namespace Go.Proofs.Ytdheckfndldbmaa
open Go.RowKit
attribute [local go_sem] merge_t merge_f merge_a merge_o

def runM (m : MonD) (l : List W4) : Except Int (MonD × List E2) := if monOk m then runL l m [] else .error 220
def RunP (B : Nat) (res : Except Int (MonD × List E2)) (w : World) (r : Ending) (w' : World) : Prop := Later w w' ∧
  match res with
  | .error k => r = .returned (.tuple #[.agg #[.slice none 0 0, .slice none 0 0, .slice none 0 0, .slice none 0 0], .slice none 0 0, .int .i64 k])
  | .ok s => ∃ v' A n c, r = .returned (.tuple #[v', .slice A n c, .int .i64 0]) ∧ n ≤ c ∧ c ≤ 9223372036854775807 ∧ ∀ V, Chg (Old w w') w' V → RMon B V v' s.1 ∧ Rd 2 encE V A n s.2
theorem cf_run1 (args : Array Value) (W : World) : (callFunc 59 args).run Try.prog W = .ok (.enter 59 args) W := by go_simp

theorem run_box (w : World) (x0 x1 x2 x3 y : Value) : ∃ wb, Hid (((w.alloc (.cells #[x0, x1, x2, x3] 32)).alloc (.cells #[y] 30)).alloc (.cells #[.slice none 0 0, .slice none 0 0, .slice none 0 0, .slice none 0 0] 32) = wb) ∧ Later w wb ∧ wb.heap.size = w.heap.size + 3 ∧
    Box wb w.heap.size #[x0, x1, x2, x3] 32 ∧ Box wb (w.heap.size + 1) #[y] 30 ∧ Box wb (w.heap.size + 1 + 1) #[.slice none 0 0, .slice none 0 0, .slice none 0 0, .slice none 0 0] 32 := by
  refine ⟨_, rfl, (((Later.refl _).alloc _).alloc _).alloc _, by simp, ((Box.new _ _ _).alloc _).alloc _, ?_, ?_⟩
  · have := Box.new (w.alloc (.cells #[x0, x1, x2, x3] 32)) #[y] 30
    rw [World.size_alloc] at this; exact this.alloc _
  · have := Box.new ((w.alloc (.cells #[x0, x1, x2, x3] 32)).alloc (.cells #[y] 30)) #[.slice none 0 0, .slice none 0 0, .slice none 0 0, .slice none 0 0] 32
    simpa only [World.size_alloc] using this

set_option maxRecDepth 100000 in
set_option maxHeartbeats 8000000 in
/-- behind tries, whatever came of it -/
theorem run_after (B : Nat) (v fv : Value) (m : MonD) (AL : Option Addr) (nl cl : Nat) (w : World) (hM : RMon B w v m) (hfv : fv = .func (.func 59) #[] #[.pointer (some ⟨w.heap.size + 1, 0, none⟩)]) (R : Ending → World → Prop)
    (hT : ∀ W, Later w W → Box W (w.heap.size + 1) #[.slice AL nl cl] 30 → W.heap.size = w.heap.size + 3 → Box W (w.heap.size + 1 + 1) #[.slice none 0 0, .slice none 0 0, .slice none 0 0, .slice none 0 0] 32 → Calls Try.prog 37 #[v, fv] W fun r W' => Later W W' ∧ ∃ b F0 F1 F2 F3 p0 p1 p2 p3 o0 o1 o2 o3 A n c er, r = .returned (.tuple #[.pointer (some ⟨b, 0, none⟩), .int .i64 er]) ∧ Box W' b #[.slice F0 p0 o0, .slice F1 p1 o1, .slice F2 p2 o2, .slice F3 p3 o3, .slice A n c] 85 ∧
      ∀ W'', Chg (fun i => i = w.heap.size + 1 + 1) W' W'' → Later w W'' → R (.returned (.tuple #[.agg #[.slice F0 p0 o0, .slice F1 p1 o1, .slice F2 p2 o2, .slice F3 p3 o3], .slice A n c, .int .i64 er])) W'') :
    Calls Try.prog 29 #[v, .slice AL nl cl] w R := by
  have hmf : ∀ (fn : Fn) (first cap : Array Value) (w : World), (Instr.makeFunc fn first cap).run Try.prog w = .ok (.func fn first cap) w := fun _ _ _ _ => rfl
  obtain ⟨A0, n0, c0, A1, n1, c1, A2, n2, c2, A3, n3, c3, rfl, -, -, -, -, -, -⟩ := hM
  obtain ⟨wb, hwb, hL, hwz, b2, b3, b4⟩ := run_box w (.slice A0 n0 c0) (.slice A1 n1 c1) (.slice A2 n2 c2) (.slice A3 n3 c3) (.slice AL nl cl)
  have B4 := Lib.hid b4
  have q0 := cel (b2.cell (i := 0) rfl)
  have q1 := cel (b2.cell (i := 1) rfl)
  have q2 := cel (b2.cell (i := 2) rfl)
  have q3 := cel (b2.cell (i := 3) rfl)
  have Hwz := Lib.hid hwz
  have cT := hT wb hL b3 hwz b4
  have CT := Lib.hid cT
  clear b2 b3 b4 hwz hT cT
  subst hfv
  go_enter Try.func29, Try.ntmps29
  go_wp2_with fail
  rw [hwb.out]
  refine CT.out.mono ?_
  rintro e w1 ⟨hL1, b, F0, F1, F2, F3, p0, p1, p2, p3, o0, o1, o2, o3, A, n, c, er, rfl, hbx, hR⟩
  have HR := Lib.hid hR
  have k4 := B4.out.later hL1
  have H4 := Lib.hid k4
  have nb : b ≠ w.heap.size + 1 + 1 := hbx.ne k4 (by decide)
  have y0 := celS (S := fun i => i = w.heap.size + 1 + 1) nb (hbx.cell (i := 0) rfl)
  have y1 := celS (S := fun i => i = w.heap.size + 1 + 1) nb (hbx.cell (i := 1) rfl)
  have y2 := celS (S := fun i => i = w.heap.size + 1 + 1) nb (hbx.cell (i := 2) rfl)
  have y3 := celS (S := fun i => i = w.heap.size + 1 + 1) nb (hbx.cell (i := 3) rfl)
  have y4 := celS (S := fun i => i = w.heap.size + 1 + 1) nb (hbx.cell (i := 4) rfl)
  obtain ⟨b4, hb4⟩ : ∃ b4, w.heap.size + 1 + 1 = b4 := ⟨_, rfl⟩
  clear hR k4 hbx
  rw [hb4] at y0 y1 y2 y3 y4 H4 nb
  go_wp2
  refine Y.region_full (S := (Chg (fun i => i = b4) w1)) (R := (oneR 9 (Chg (fun i => i = b4)))) (N := (oneP 9 fun W => Box W b4 #[.slice none 0 0, .slice none 0 0, .slice none 0 0, .slice none 0 0] 32)) (Pn := (fun _ _ => False)) (af := ?_) 11 (fun _ _ => undef) (fun j _ => oneP 9 (fun W => Box W b4 #[.slice F0 p0 o0, .slice F1 p1 o1, .slice F2 p2 o2, .slice F3 p3 o3] 32) j) (oneE 9) gU0 (by kernel_rfl) (by kernel_rfl) (by kernel_rfl) (by decide) (by kernel_rfl) (fun _ h => h.drew) (Chg.refl _ _) (fun _ _ _ h h2 => h.trans h2.2) oneVL oneNL (fun _ _ _ _ _ _ h => h) (fun _ _ _ => H4.out.drew) ?_ (fun _ _ _ _ h => h.elim) ?_
  rotate_left
  · intro t
    repeat (first
      | (refine Y.SeqT.val (v := ?_) (by rfl) (by rfl) (fun W hW => ?_) ?_; rotate_left; (· (go_simp; try with_reducible rfl)); try simp only [Act.put, List.setIfInBounds_toArray, List.set_cons_zero, List.set_cons_succ])
      | (refine Y.SeqT.skip (by rfl) (by rfl) ?_; try simp only [Act.put, List.setIfInBounds_toArray, List.set_cons_zero, List.set_cons_succ])
      | (refine Y.SeqT.store (by rfl) (by rfl) (fun _ => by rfl) (fun W hW hN hd => ?_) ?_; (· (have q := hN rfl; have q0 := q.cell (i := 0) rfl; have q1 := q.cell (i := 1) rfl; have q2 := q.cell (i := 2) rfl; have q3 := q.cell (i := 3) rfl; have qf := q.frozen; exact ⟨(((W.setCell ⟨b4, 0, none⟩ (.slice F0 p0 o0)).setCell ⟨b4, 1, none⟩ (.slice F1 p1 o1)).setCell ⟨b4, 2, none⟩ (.slice F2 p2 o2)).setCell ⟨b4, 3, none⟩ (.slice F3 p3 o3), by go_simp, fun _ => q.set4 _ _ _ _, rfl, (((Chg.set (S := fun i => i = b4) (.refl _ _) rfl _).set rfl _).set rfl _).set rfl _⟩)); try simp only [Act.put, List.setIfInBounds_toArray, List.set_cons_zero, List.set_cons_succ])
      )
    exact Y.SeqT.nil _
  intro t W hW hV
  refine wpList_is (l' := [_]) rfl ?_
  have g4 := hV 9 (by decide) rfl rfl
  have q0 := g4.cell (i := 0) rfl
  have q1 := g4.cell (i := 1) rfl
  have q2 := g4.cell (i := 2) rfl
  have q3 := g4.cell (i := 3) rfl
  clear hV g4
  go_wp2
  refine bodyPost_ret (v := .tuple #[.agg #[.slice F0 p0 o0, .slice F1 p1 o1, .slice F2 p2 o2, .slice F3 p3 o3], .slice A n c, .int .i64 er]) (by rw [results_ctt rfl]; go_simp) rfl ?_
  have hf := HR.out W
  have hz := Hwz.out
  exact hf (hW.mono fun i _ h => by omega) (((Chg.of_later (hL.trans hL1)).trans hW).to_later fun i hi h => by omega)

set_option maxRecDepth 100000 in
theorem mrun_c (B : Nat) (v : Value) (m : MonD) (AL : Option Addr) (nl cl : Nat) (l : List W4) (w : World) (hB : B + nl ≤ 800000) (hM : RMon B w v m) (h0 : ∀ s ∈ m.slabs, 0 ≤ s.2) (hl : Rd 4 encW w AL nl l) :
    Calls Try.prog 29 #[v, .slice AL nl cl] w (RunP (B + nl + 128) (runM m l) w) := by
  refine run_after B v _ m AL nl cl w hM rfl _ fun W hW hbx hz hb4 => ?_
  have hMW := hM.later hW
  cases hOk : monOk m with
  | false =>
    refine (mtries_bad B v _ m W (by omega) hMW hOk (.error 220) rfl).mono ?_
    rintro r W' ⟨hL, b, rfl, hb⟩
    refine ⟨hL, b, none, none, none, none, 0, 0, 0, 0, 0, 0, 0, 0, none, 0, 0, 220, rfl, hb, fun W'' _ hL'' => ⟨hL'', ?_⟩⟩
    simp only [runM, hOk, Bool.false_eq_true, if_false]
  | true =>
    have hp := monOk_parts hOk
    have hb : ∀ l ∈ m.has, l.length ≤ B := by obtain ⟨A0, n0, c0, A1, n1, c1, A2, n2, c2, A3, n3, c3, -, -, -, -, -, hb, -⟩ := hM; exact hb.2.2.2.2
    have hWM : WM B m [] := ⟨hp.2.2.1, hp.2.2.2.2.1, hp.1, h0, hb, Nat.zero_le _⟩
    have hdo : runM m l = runL l m [] := by rw [runM, if_pos hOk]
    refine (mtries_c B v m _ _ W (by omega) hMW hOk (runL l m []) cf_run1 fun V b x hV hfx hS => runClo_c B b _ x m [] AL nl cl l W V (by omega) hWM hS hbx (hl.later hW) hV hfx).mono ?_
    rintro r W' ⟨hL, hP⟩
    rw [hdo]
    cases hd : runL l m [] with
    | error k =>
      rw [hd] at hP
      obtain ⟨b, rfl, hb⟩ := hP
      exact ⟨hL, b, none, none, none, none, 0, 0, 0, 0, 0, 0, 0, 0, none, 0, 0, k, rfl, hb, fun W'' _ hL'' => ⟨hL'', rfl⟩⟩
    | ok s =>
      rw [hd] at hP
      obtain ⟨b, x, rfl, hS, hfx⟩ := hP
      have hWM' := runL_wm l hWM hd
      rw [hl.1] at hWM'
      obtain ⟨At, ct, et, h31, h32, h33⟩ := rd_of_own enc_E rfl hS.tu
      obtain ⟨A3, n3, c3, e3, -, -, -, -⟩ := hS.rmon (hWM'.wb hS)
      have hbx' := hS.bx
      rw [et, e3] at hbx'
      unfold maxLen at h32
      refine ⟨hL, b, _, _, _, _, _, _, _, _, _, _, _, _, _, _, _, 0, rfl, hbx', fun W'' hC hL'' => ⟨hL'', ?_⟩⟩
      have hS'' := hS.chg hC (fun k hk h => by have := hfx k hk; omega) (fun e => absurd e (hS.sl.ne (hb4.later hL) (by decide)))
      have hzz := hW.sz
      refine ⟨_, _, _, _, rfl, h31, by omega, fun V hCV => ?_⟩
      have hSV := hS''.chg hCV (fun k hk h => by have := hfx k hk; have := h.1; omega) (fun ⟨_, cs, t, h1, h2⟩ => absurd rfl (h1.ne hS''.sl h2))
      obtain ⟨A3', n3', c3', e3', -, -, -, hR⟩ := hSV.rmon (hWM'.wb hSV)
      obtain ⟨At', ct', et', h31', h32', h33'⟩ := rd_of_own enc_E rfl hSV.tu
      rw [e3] at e3'
      cases e3'
      rw [et] at et'
      cases et'
      exact ⟨hR, h33'⟩
end Go.Proofs.Ytdheckfndldbmaa
