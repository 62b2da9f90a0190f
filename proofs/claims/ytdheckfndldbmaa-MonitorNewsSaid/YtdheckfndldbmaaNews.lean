/- MonitorNews: whatever the row of pairs, the law returns true, and the row reads behind the call as before. No conditions. -/
import Derived.Test.YtdheckfndldbmaaM16
import Derived.Test.YtdheckfndldbmaaRows
import Derived.ProofKit
import Derived.Carry
import Derived.Deep.Slices
namespace Go.Proofs.Ytdheckfndldbmaa
open Go.RowKit
attribute [local go_sem] merge_t merge_f merge_a merge_o

theorem rnew_box (w : World) : ∃ wb, Hid ((w.alloc (.cells #[.slice none 0 0] 27)).alloc (.cells #[.slice none 0 0] 27) = wb) ∧ Later w wb ∧ wb.heap.size = w.heap.size + 2 ∧
    Box wb w.heap.size #[.slice none 0 0] 27 ∧ Box wb (w.heap.size + 1) #[.slice none 0 0] 27 := by
  refine ⟨_, rfl, ((Later.refl _).alloc _).alloc _, by simp, (Box.new _ _ _).alloc _, ?_⟩
  have := Box.new (w.alloc (.cells #[.slice none 0 0] 27)) #[.slice none 0 0] 27
  rwa [World.size_alloc] at this
theorem rep_snoc (k : Nat) : List.replicate (k + 1) ((0, 0) : E2) = List.replicate k (0, 0) ++ [(0, 0)] := by rw [List.replicate_succ']

set_option maxRecDepth 100000 in
set_option maxHeartbeats 2000000 in
theorem rnew_c (n : Nat) (w : World) (hn : n ≤ 1000000) : Calls Try.prog 10 #[.int .i64 n] w fun r w' => Later w w' ∧ ∃ A c, r = .returned (.agg #[.slice A n c]) ∧ w'.ownsRow 0 47 2 (.slice A n c) n (flat encE (List.replicate n (0, 0))) := by
  obtain ⟨wb, hwb, hL, hwz, b1, b2⟩ := rnew_box w
  have B1 := Lib.hid b1
  have B2 := Lib.hid b2
  have hwe := hwb.out
  clear b1 b2 hwb
  go_enter Try.func10, Try.ntmps10
  go_wp2
  go_loopw [5] (fun i wr => ∃ (k : Nat) (A : Option Addr) (c : Nat), k ≤ n ∧ i = .int .i64 k ∧ Later w wr ∧ wb.heap.size ≤ wr.heap.size ∧ Box wr w.heap.size #[.slice none 0 0] 27 ∧ Box wr (w.heap.size + 1) #[.slice A k c] 27 ∧ wr.ownsRow wb.heap.size 47 2 (.slice A k c) k (flat encE (List.replicate k (0, 0)))) (fun i _ => n - (intOf i).toNat)
  case atStart => exact ⟨0, none, 0, Nat.zero_le _, rfl, hL, Nat.le_refl _, B1.out, B2.out, World.ownsRow_nil _ _ _ _⟩
  case round =>
    obtain ⟨k, A, c, hk, rfl, hLr, hz, h1, h2, ho⟩ := hrel
    have H1 := Lib.hid h1
    have H2 := Lib.hid h2
    have HO := Lib.hid ho
    have c2 := h2.cell (i := 0) rfl
    have hlt2 := h2.lt
    clear h1 h2 ho
    by_cases hlt : k < n
    · have hlr : (List.replicate k ((0, 0) : E2)).length ≤ 2000000 := by rw [List.length_replicate]; omega
      have HO' : Hid (wr.ownsRow wb.heap.size 47 2 (.slice A k c) (List.replicate k ((0, 0) : E2)).length (flat encE (List.replicate k (0, 0)))) := by rw [List.length_replicate]; exact HO.out
      go_wp2_with (at_builtin; refine append_elem rfl _ _ 25 47 (.agg #[.int .i64 0, .int .u64 0]) 16 wb.heap.size rfl enc_E Try.underlying25 infoS rfl (.slice A k c) (List.replicate k ((0, 0) : E2)) (0, 0) _ rfl rfl rfl HO'.out hz hlr (by omega) ?_; intro v1 w2 ho2 hb2 hg2 _; obtain ⟨A', c', rfl, -, -⟩ := own_slice ho2; rw [← rep_snoc, List.length_replicate] at ho2; have hC := Chg.of_grown (S := fun j => (Value.slice A k c).ownBlock = some j) hg2 (fun _ e => e); have x1 := H1.out.chg hC (fun e => (by have := own_block_le HO.out _ e; omega)); have x2 := H2.out.chg hC (fun e => (by have := own_block_le HO.out _ e; omega)); have hL3 := later_below hLr hb2 (by omega); have hz3 := hC.size; have q0 := x2.cell (i := 0) rfl; have qf := x2.frozen; have X1 := Lib.hid x1; have X2 := Lib.hid x2; have HO2 := Lib.hid ho2; clear x1 x2 ho2 hb2 hC hg2)
      go_roundw
      case rel =>
        have hne : (Value.slice A' (k + 1) c').ownBlock ≠ some (w.heap.size + 1) := fun e => by have := own_block_le HO2.out _ e; omega
        exact ⟨k + 1, A', c', by omega, by go_num, hL3.set (by omega) _, by rw [World.size_setCell]; omega, X1.out.set_other (by omega) _ _, by simpa using X2.out.set 0 (.slice A' (k + 1) c'), ownsRow_setCell_other HO2.out hne _⟩
      case measure => simp [intOf]; omega
    · have e : k = n := by omega
      subst e
      have c1 := H1.out.cell (i := 0) rfl
      have g1 := H1.out.frozen
      have x1 := H1.out.set 0 (.slice A k c)
      have q1 := x1.cell (i := 0) rfl
      clear x1
      go_wp2
      refine bodyPost_ret (v := .agg #[.slice A k c]) (by rw [results_cell1 rfl]; go_simp) rfl ?_
      have hne : (Value.slice A k c).ownBlock ≠ some w.heap.size := fun e => by have := own_block_le HO.out _ e; omega
      exact ⟨hLr.set (Nat.le_refl _) _, _, _, rfl, own_base (ownsRow_setCell_other HO.out hne _) (Nat.zero_le _)⟩
end Go.Proofs.Ytdheckfndldbmaa

namespace Go.Proofs.Ytdheckfndldbmaa
open Go.RowKit
attribute [local go_sem] merge_t merge_f merge_a merge_o

def encP (p : Int × Int) : List Value := [.int .i64 p.1, .int .i64 p.2]
theorem Rd.atP {w : World} {A : Option Addr} {n : Nat} {xs : List (Int × Int)} (h : Rd 2 encP w A n xs) (k : Nat) (hk : k < n) :
    ∃ b off, A = some ⟨b, off, none⟩ ∧ (∀ W, Later w W → W.cell? ⟨b, off + k * 2, none⟩ = some (.int .i64 (xs[k]?.getD (0, 0)).1)) ∧
      (∀ W, Later w W → W.cell? ⟨b, off + k * 2 + 1, none⟩ = some (.int .i64 (xs[k]?.getD (0, 0)).2)) := by
  obtain ⟨b, off, e, hc⟩ := h.2 (by omega)
  have hx : xs[k]? = some (xs[k]?.getD (0, 0)) := by rw [List.getElem?_eq_getElem (by rw [h.1]; exact hk)]; rfl
  exact ⟨b, off, e, cel (hc k _ hx 0 _ rfl), cel (hc k _ hx 1 _ rfl)⟩
def goodN (a b : Int) : Prop := 1 ≤ a ∧ a ≤ 8 ∧ 2 ≤ b ∧ b ≤ 128
instance (a b : Int) : Decidable (goodN a b) := by unfold goodN; infer_instance

def nsV (b0 k kb : Nat) : Nat → (Nat → Gh) → World → Prop
  | 2, t, W => W.ownsRow 0 47 2 (.slice (t 2).A kb (t 2).c) kb (flat encE (List.replicate kb (0, 0)))
  | 5, t, W => Box W (t 5).n (madeCells #[.bool false] (k * 1)) 4
  | 8, t, W => Box W (t 8).n (madeCells #[.slice none 0 0] (k * 1)) 54
  | 10, t, W => b0 ≤ (t 10).n ∧ Box W (t 10).n #[.slice none 0 0, .slice none 0 0, .slice none 0 0, .slice none 0 0] 32
  | _, _, _ => True
def nsF (k kb : Nat) : Nat → Gh → Value
  | 2, s => .agg #[.slice s.A kb s.c]
  | 10, s => .pointer (some ⟨s.n, 0, none⟩)
  | _, s => .slice (some ⟨s.n, 0, none⟩) k k
def nsE (i : Nat) : Bool := i == 2 || i == 5 || i == 8 || i == 10
theorem nsVL (b0 k kb : Nat) : ∀ j t W W', nsV b0 k kb j t W → Later W W' → nsV b0 k kb j t W' := by
  intro j t W W' h hL
  unfold nsV at *
  split at h
  · exact hL.own h
  · exact Box.later h hL
  · exact Box.later h hL
  · exact ⟨h.1, h.2.later hL⟩
  · trivial
theorem nsLoc (b0 k kb : Nat) : ∀ j (t t' : Nat → Gh) W, t j = t' j → (∀ k, k ∈ gU0 j → t k = t' k) → nsV b0 k kb j t W → nsV b0 k kb j t' W := by
  intro j t t' W h _ hV
  unfold nsV at *
  split at hV <;> simp_all
theorem ns_rmon (k kb : Nat) {W : World} {A : Option Addr} {c b2 b3 : Nat} (hg : goodN k kb) (h0 : W.ownsRow 0 47 2 (.slice A kb c) kb (flat encE (List.replicate kb (0, 0)))) (h1 : Box W b2 (madeCells #[.bool false] (k * 1)) 4) (h2 : Box W b3 (madeCells #[.slice none 0 0] (k * 1)) 54) :
    RMon 128 W (.agg #[.slice A kb c, .slice (some ⟨b2, 0, none⟩) k k, .slice (some ⟨b3, 0, none⟩) k k, .slice none 0 0]) (newM k kb) := by
  unfold goodN at hg
  obtain ⟨A', c', e, g1, g2, g3⟩ := rd_of_own enc_E (List.length_replicate ..) h0
  cases e
  unfold maxLen at g2
  have eB := made_flat enc_B false k
  simp only [encB] at eB
  rw [eB] at h1
  refine ⟨_, _, _, _, _, _, _, _, _, _, _, _, rfl, g3, ?_, ?_, Rd.nil _ _ _, ⟨by omega, by omega, by omega, by omega, fun l hl => ?_⟩, ⟨g1, by omega, Nat.le_refl _, by omega, Nat.le_refl _, by omega, Nat.le_refl _, by omega⟩⟩
  · have := h1.rd enc_B; rwa [List.length_replicate] at this
  · have := rdR_of (rows := List.replicate k []) h2 fun j r hr => ?_
    · rwa [List.length_replicate] at this
    · rw [List.getElem?_replicate] at hr
      split at hr
      · cases hr
        refine ⟨none, 0, 0, ?_, Nat.le_refl _, by omega, Rd.nil _ _ _⟩
        rw [← Array.getElem?_toList, Nat.mul_one, toList_madeCells_one, List.getElem?_replicate, if_pos (by assumption)]
      · cases hr
  · simp only [newM, List.mem_replicate] at hl
    rw [hl.2]; simp

set_option maxRecDepth 100000 in
set_option maxHeartbeats 4000000 in
theorem news_c (A : Option Addr) (n cap : Nat) (xs : List (Int × Int)) (w : World) (hm : n ≤ 9223372036854775807) (hR : Rd 2 encP w A n xs) :
    Calls Try.prog 3 #[.slice A n cap] w fun r w' => r = .returned (.bool true) ∧ Later w w' := by
  have HR := Lib.hid hR
  have HWK : Hid (∀ W, Calls Try.prog 7 #[] W fun r w' => r = .returned (.bool true) ∧ Later W w') := fun W => wakes_c W
  clear hR
  go_enter Try.func3, Try.ntmps3
  go_wp2_with (go_at_call 7; refine (HWK.out _).mono ?_; rintro e w1 ⟨rfl, hL1⟩)
  clear HWK
  go_loopw [12] (fun i wr => ∃ k : Nat, k ≤ n ∧ i = .int .i64 k ∧ Later w wr) (fun i _ => n - (intOf i).toNat)
  case atStart => exact ⟨0, Nat.zero_le _, rfl, hL1⟩
  case round =>
    obtain ⟨k, hk, rfl, hLr⟩ := hrel
    by_cases hlt : k < n
    · obtain ⟨q, qo, rfl, x0, x1⟩ := HR.out.atP k hlt
      obtain ⟨⟨a, b⟩, hy⟩ : ∃ y : Int × Int, xs[k]?.getD (0, 0) = y := ⟨_, rfl⟩
      rw [hy] at x0 x1
      have x0' := celw hLr x0
      have x1' := celw hLr x1
      obtain ⟨wc, hwc, hL2, _, f2, _⟩ := box1 wr #[.int .i64 a, .int .i64 b] 24
      have e0 := f2 0 _ rfl
      have e1 := f2 1 _ rfl
      have hwe := hwc.out
      have HL2 := Lib.hid (hLr.trans hL2)
      clear x0 x1 f2 hy hwc hL2
      by_cases h10 : (k : Int) = 10
      · have hv : ((k : Int) == 10) = true := by rw [h10]; rfl
        have HK := Lib.hid h10
        clear h10
        go_wp2
        go_ret
        exact ⟨rfl, HL2.out⟩
      · by_cases hg : goodN a b
        · have G := Lib.hid hg
          obtain ⟨g, rfl⟩ := Int.eq_ofNat_of_zero_le (show 0 ≤ a by unfold goodN at hg; omega)
          obtain ⟨sb, rfl⟩ := Int.eq_ofNat_of_zero_le (show 0 ≤ b by unfold goodN at hg; omega)
          have h1 : ¬ (g : Int) < 1 := by unfold goodN at hg; omega
          have h2 : ¬ 8 < (g : Int) := by unfold goodN at hg; omega
          have cN : Hid (∀ W, Calls Try.prog 8 #[.int .i64 g, .int .i64 sb] W fun r w' => ∃ v, r = .returned (.tuple #[v, .int .i64 0]) ∧ RMon 128 w' v (newM g sb) ∧ Later W w') := fun W => (mnew_c g sb W).mono fun r w' h => by
            obtain ⟨h1, h2⟩ := h
            rw [if_pos (show (1 ≤ (g : Int) ∧ (g : Int) ≤ 8 ∧ 2 ≤ (sb : Int) ∧ (sb : Int) ≤ 128) from G.out)] at h2
            obtain ⟨v, e, hM⟩ := h2
            exact ⟨v, e, hM, h1⟩
          have cM : Hid (∀ W, Calls Try.prog 9 #[.int .i64 sb] W fun r w' => r = .returned (.bool true) ∧ w' = W) := fun W => (many_c sb W).mono fun _ _ h => ⟨by rw [h.1, decide_eq_true G.out.2.2.1, decide_eq_true G.out.2.2.2]; rfl, h.2.symm⟩
          have hmkB := make_eq (P := Try.prog) 28 4 (.bool false) 1 1 Try.underlying28 infoB g (by unfold goodN at hg; omega) (by unfold goodN at hg; omega)
          have hmkR := make_eq (P := Try.prog) 29 54 (.slice none 0 0) 1 24 Try.underlying29 infoRR g (by unfold goodN at hg; omega) (by unfold goodN at hg; omega)
          clear hg
          go_wp2_with fail
          refine (cN.out _).mono ?_
          rintro e w4 ⟨v, rfl, hM4, hL4⟩
          have HM4 := Lib.hid hM4
          obtain ⟨A0, n0, c0, A1, n1, c1, A2, n2, c2, A3, n3, c3, rfl, -⟩ := hM4
          obtain ⟨w5, hw5, hL5, -, f5, -⟩ := box1 w4 #[.slice A0 n0 c0, .slice A1 n1 c1, .slice A2 n2 c2, .slice A3 n3 c3] 32
          have y0 := f5 0 _ rfl
          have y1 := f5 1 _ rfl
          have y2 := f5 2 _ rfl
          have y3 := f5 3 _ rfl
          have hwe5 := hw5.out
          have HL4 := Lib.hid (HL2.out.trans hL4)
          have HL5 := Lib.hid hL5
          have i0 := celw (hL4.trans hL5) e0
          have i1 := celw (hL4.trans hL5) e1
          clear e0 e1 f5 hw5 hL4 hL5
          go_wp2_with fail
          refine (cM.out _).mono ?_
          rintro e w6 ⟨rfl, hw6⟩
          subst w6
          go_wp2
          refine region_ghost (S := Later w5) (af := ?_) 11 (nsF g sb) (nsV w5.heap.size g sb) nsE gU0 (by kernel_rfl) (by kernel_rfl) (by kernel_rfl) (by decide) (by kernel_rfl) (fun _ h => h.drew) (Later.refl _) (fun _ _ h h2 => h.trans h2) (nsVL _ _ _) (nsLoc _ _ _) ?_ ?_
          rotate_left
          · intro t
            repeat (first
              | (refine SeqT.val (v := ?_) (by rfl) (by rfl) (fun W hW => ?_) ?_; rotate_left; (· (go_simp; try with_reducible rfl)); try simp only [Act.put, List.setIfInBounds_toArray, List.set_cons_zero, List.set_cons_succ])
              | (refine SeqT.skip (by rfl) (by rfl) ?_; try simp only [Act.put, List.setIfInBounds_toArray, List.set_cons_zero, List.set_cons_succ])
              | (refine SeqT.call (g := ?_) (args := ?_) (.agg #[.slice (t 2).A sb (t 2).c]) (by rfl) (by rfl) (by rfl) (fun W hW => ?_) (fun W hW hd => ?_) ?_; rotate_left 2; (· (go_simp; first | with_reducible rfl | (refine ⟨?_, ?_⟩ <;> with_reducible rfl))); (· (exact (rnew_c sb W (by have := G.out.2.2.2; omega)).mono fun _ _ ⟨h1, A, c, h2, h3⟩ => ⟨⟨A, 0, c, undef⟩, h2, h3, h1⟩)); try simp only [Act.put, List.setIfInBounds_toArray, List.set_cons_zero, List.set_cons_succ])
              | (refine SeqT.make (.slice (some ⟨(t 5).n, 0, none⟩) g g) (by rfl) (by rfl) (by rfl) (fun W hW hd => ?_) ?_; (· (exact ⟨⟨none, W.heap.size, 0, undef⟩, W.alloc (.cells (madeCells #[.bool false] (g * 1)) 4), by go_simp; first | rfl | exact ⟨rfl, rfl⟩, Box.new _ _ _, (Later.refl W).alloc _⟩)); try simp only [Act.put, List.setIfInBounds_toArray, List.set_cons_zero, List.set_cons_succ])
              | (refine SeqT.make (.slice (some ⟨(t 8).n, 0, none⟩) g g) (by rfl) (by rfl) (by rfl) (fun W hW hd => ?_) ?_; (· (exact ⟨⟨none, W.heap.size, 0, undef⟩, W.alloc (.cells (madeCells #[.slice none 0 0] (g * 1)) 54), by go_simp; first | rfl | exact ⟨rfl, rfl⟩, Box.new _ _ _, (Later.refl W).alloc _⟩)); try simp only [Act.put, List.setIfInBounds_toArray, List.set_cons_zero, List.set_cons_succ])
              | (refine SeqT.make (.pointer (some ⟨(t 10).n, 0, none⟩)) (by rfl) (by rfl) (by rfl) (fun W hW hd => ?_) ?_; (· (exact ⟨⟨none, W.heap.size, 0, undef⟩, W.alloc (.cells #[.slice none 0 0, .slice none 0 0, .slice none 0 0, .slice none 0 0] 32), by go_simp; first | rfl | exact ⟨rfl, rfl⟩, ⟨hW.sz, Box.new _ _ _⟩, (Later.refl W).alloc _⟩)); try simp only [Act.put, List.setIfInBounds_toArray, List.set_cons_zero, List.set_cons_succ])
              )
            exact SeqT.nil _
          intro t W hW hV
          refine wpList_is (l' := [_]) rfl ?_
          have v2 := hV 2 (by decide) rfl
          have v5 := hV 5 (by decide) rfl
          have v8 := hV 8 (by decide) rfl
          obtain ⟨hb7, v10⟩ := hV 10 (by decide) rfl
          simp only [nsV] at v2 v5 v8
          generalize (t 2).A = Ag at *
          generalize (t 2).c = cg at *
          generalize (t 5).n = bP at *
          generalize (t 8).n = bH at *
          generalize (t 10).n = b7 at *
          clear hV
          have q0 := v10.cell (i := 0) rfl
          have q1 := v10.cell (i := 1) rfl
          have q2 := v10.cell (i := 2) rfl
          have q3 := v10.cell (i := 3) rfl
          have qf := v10.frozen
          have z7 := v10.set4 (.slice Ag sb cg) (.slice (some ⟨bP, 0, none⟩) g g) (.slice (some ⟨bH, 0, none⟩) g g) (.slice none 0 0)
          have hC : Chg (fun i => i = b7) W ((((W.setCell ⟨b7, 0, none⟩ (.slice Ag sb cg)).setCell ⟨b7, 1, none⟩ (.slice (some ⟨bP, 0, none⟩) g g)).setCell ⟨b7, 2, none⟩ (.slice (some ⟨bH, 0, none⟩) g g)).setCell ⟨b7, 3, none⟩ (.slice none 0 0)) := (((Chg.set (S := fun i => i = b7) (.refl _ _) rfl _).set rfl _).set rfl _).set rfl _
          obtain ⟨w7, hw7⟩ : ∃ w7, (((W.setCell ⟨b7, 0, none⟩ (.slice Ag sb cg)).setCell ⟨b7, 1, none⟩ (.slice (some ⟨bP, 0, none⟩) g g)).setCell ⟨b7, 2, none⟩ (.slice (some ⟨bH, 0, none⟩) g g)).setCell ⟨b7, 3, none⟩ (.slice none 0 0) = w7 := ⟨_, rfl⟩
          rw [hw7] at z7 hC
          have hM7 := ns_rmon g sb G.out (hC.own v2 (fun k e1 e2 => own_ne v2 (show W.heap[b7]? = _ from v10) (by decide) (by rw [e1, e2]))) (v5.chg hC (v5.ne v10 (by decide))) (v8.chg hC (v8.ne v10 (by decide)))
          have hL57 : Later w5 w7 := ((Chg.of_later hW).trans hC).to_later fun i hi e => by omega
          have cS : Hid (∀ V, Later w7 V → Calls Try.prog 11 #[.agg #[.slice A0 n0 c0, .slice A1 n1 c1, .slice A2 n2 c2, .slice A3 n3 c3], .agg #[.slice Ag sb cg, .slice (some ⟨bP, 0, none⟩) g g, .slice (some ⟨bH, 0, none⟩) g g, .slice none 0 0]] V fun r w' => r = .returned (.bool true) ∧ Later V w') := fun V hV => by
            have := rsame12_c 128 128 _ _ _ _ V (by decide) (HM4.out.later (HL5.out.trans (hL57.trans hV))) (hM7.later hV)
            rwa [sameM_yes rfl rfl rfl rfl] at this
          have u0 := celw hL57 y0
          have u1 := celw hL57 y1
          have u2 := celw hL57 y2
          have u3 := celw hL57 y3
          have p0 := cel (z7.cell (i := 0) rfl)
          have p1 := cel (z7.cell (i := 1) rfl)
          have p2 := cel (z7.cell (i := 2) rfl)
          have p3 := cel (z7.cell (i := 3) rfl)
          have HL57 := Lib.hid hL57
          clear v2 v5 v8 v10 z7 hC hM7 hL57 y0 y1 y2 y3
          go_wp2_with (go_at_call 11; refine (cS.out _ (Later.refl _)).mono ?_; rintro e w8 ⟨rfl, hL8⟩)
          go_roundw
          case rel => exact ⟨k + 1, by omega, by go_num, HL4.out.trans (HL5.out.trans (HL57.out.trans hL8))⟩
          case measure => simp [intOf]; omega
        · have cN : Hid (∀ W, Calls Try.prog 8 #[.int .i64 a, .int .i64 b] W fun r w' => r = .returned (.tuple #[.agg #[.slice none 0 0, .slice none 0 0, .slice none 0 0, .slice none 0 0], .int .i64 2]) ∧ Later W w') := fun W => (mnew_c a b W).mono fun r w' h => by
            obtain ⟨h1, h2⟩ := h
            rw [if_neg (show ¬ (1 ≤ a ∧ a ≤ 8 ∧ 2 ≤ b ∧ b ≤ 128) from hg)] at h2
            exact ⟨h2, h1⟩
          have cM : Hid (∀ W, Calls Try.prog 9 #[.int .i64 b] W fun r w' => r = .returned (.bool (decide (2 ≤ b) && decide (b ≤ 128))) ∧ w' = W) := fun W => (many_c b W).mono fun _ _ h => ⟨h.1, h.2.symm⟩
          rcases (show a < 1 ∨ (¬ a < 1 ∧ 8 < a) ∨ (¬ a < 1 ∧ ¬ 8 < a ∧ (decide (2 ≤ b) && decide (b ≤ 128)) = false) by unfold goodN at hg; simp only [Bool.and_eq_false_iff, decide_eq_false_iff_not]; omega) with h1 | ⟨h1, h2⟩ | ⟨h1, h2, h3⟩
          · clear hg cM
            go_wp2_with (go_at_call 8; refine (cN.out _).mono ?_; rintro e w4 ⟨rfl, hL4⟩)
            go_roundw
            case rel => exact ⟨k + 1, by omega, by go_num, (HL2.out.trans hL4).alloc _⟩
            case measure => simp [intOf]; omega
          · clear hg cM
            go_wp2_with (go_at_call 8; refine (cN.out _).mono ?_; rintro e w4 ⟨rfl, hL4⟩)
            go_roundw
            case rel => exact ⟨k + 1, by omega, by go_num, (HL2.out.trans hL4).alloc _⟩
            case measure => simp [intOf]; omega
          · have cM' : Hid (∀ W, Calls Try.prog 9 #[.int .i64 b] W fun r w' => r = .returned (.bool false) ∧ w' = W) := fun W => by have := cM.out W; rwa [h3] at this
            clear hg cM h3
            go_wp2_with (first | (go_at_call 8; refine (cN.out _).mono ?_; rintro e w4 ⟨rfl, hL4⟩) | (go_at_call 9; refine (cM'.out _).mono ?_; rintro e w5 ⟨rfl, rfl⟩))
            go_roundw
            case rel => exact ⟨k + 1, by omega, by go_num, (HL2.out.trans hL4).alloc _⟩
            case measure => simp [intOf]; omega
    · go_wp2
      go_ret
      exact ⟨rfl, hLr⟩
end Go.Proofs.Ytdheckfndldbmaa

namespace Go.Proofs.Ytdheckfndldbmaa
open Go.ChangeShapes Go.WideShapes Go.ChangeAt Go.RowKit Go.Deep

theorem own_knob : ownKnob Try.prog.godebug = none := by kernel_rfl
theorem laid_out : laidOutB Try.prog = true := by kernel_rfl
theorem cells_int : Try.prog.cellsOf 3 = 1 := by kernel_rfl

/-- a slice that is read, as a list -/
theorem rd_open {H : Type} {enc : TypeId × Value → H} {P : Program} {w : World} {spare : Nat → Bool} {held : Bool} {α : Type} [Inhabited α] {sz : Nat} {encA : α → List Value} {ok : α → Prop} {t e : TypeId} {fuel : Nat} {A : Option Addr} {len cap : Nat} {x : DataW H × List MemPlace}
    (ht : P.underlying t = some (.slice e)) (hc : P.cellsOf e = sz) (hsz : 0 < sz) (henc : ∀ y, (encA y).length = sz)
    (hel : ∀ (n : Nat) (cs : List Value) (x : DataW H × List MemPlace), cs.length = sz → DataW.trod enc P w 0 spare held n e cs = some x → ∃ y, cs = encA y ∧ ok y)
    (h : DataW.trod enc P w 0 spare held fuel t [.slice A len cap] = some x) : ∃ ys : List α, Rd sz encA w A len ys ∧ len ≤ cap ∧ cap ≤ maxLen ∧ ∀ y ∈ ys, ok y := by
  rcases open_slice ht h with ⟨h0, -⟩ | ⟨a, len', cap', m, n, D, Pl, h0, -, hl, hm, hmm, -, hx⟩
  · simp only [List.cons.injEq, Value.slice.injEq, and_true] at h0
    obtain ⟨rfl, rfl, rfl⟩ := h0
    exact ⟨[], Rd.nil _ _ _, Nat.le_refl _, Nat.zero_le _, fun y hy => by cases hy⟩
  · simp only [List.cons.injEq, Value.slice.injEq, and_true] at h0
    obtain ⟨rfl, rfl, rfl⟩ := h0
    have hlm : len ≤ m := by rw [hmm]; split <;> omega
    obtain ⟨y, hy⟩ := choose_lt (α := α) (p := fun i y => ok y ∧ ∀ j, j < sz → w.cell? ((a.add (i * sz)).add j) = (encA y)[j]?) (n := len) (fun i hi => by
      obtain ⟨cs', h1, h2⟩ := hx i (by omega)
      rw [hc] at h1
      obtain ⟨_, hlen, hcell⟩ := World.cells?_some h1
      obtain ⟨y, rfl, hok⟩ := hel n cs' _ hlen h2
      exact ⟨y, hok, hcell⟩)
    refine ⟨(List.range len).map y, ⟨by simp, fun hn => ?_⟩, hl, hm, fun z hz => ?_⟩
    · have h0 := (hy 0 hn).2 0 hsz
      rw [List.getElem?_eq_getElem (by rw [henc]; exact hsz)] at h0
      have hs := World.cell?_spot h0
      obtain ⟨b, off, s⟩ := a
      have : s = none := by
        unfold Addr.add at hs
        split at hs <;> split at hs <;> simp_all
      subst this
      refine ⟨b, off, rfl, fun k z hz j v hv => ?_⟩
      rw [List.getElem?_map] at hz
      cases hk : (List.range len)[k]? with
      | none => rw [hk] at hz; cases hz
      | some k' =>
        rw [hk] at hz
        obtain ⟨hk1, hk2⟩ := List.getElem?_eq_some_iff.1 hk
        rw [List.getElem_range] at hk2
        subst hk2
        cases hz
        rw [List.length_range] at hk1
        have hj : j < sz := by have := (List.getElem?_eq_some_iff.1 hv).1; rw [henc] at this; exact this
        have := (hy k hk1).2 j hj
        rw [hv, add_plain, add_plain] at this
        exact this
    · obtain ⟨i, hi, rfl⟩ := List.mem_map.1 hz
      exact (hy i (List.mem_range.1 hi)).1

theorem trod_array2 {H : Type} {enc : TypeId × Value → H} {P : Program} {w : World} {base : Nat} {spare : Nat → Bool} {held : Bool} {t e : TypeId} {fuel : Nat} {c0 c1 : Value} {x : DataW H × List MemPlace} (ht : P.underlying t = some (.array 2 e)) (hce : P.cellsOf e = 1)
    (h : DataW.trod enc P w base spare held fuel t [c0, c1] = some x) :
    ∃ y0 y1 n, DataW.trod enc P w base spare held n e [c0] = some y0 ∧ DataW.trod enc P w base spare held n e [c1] = some y1 := by
  cases fuel with
  | zero => simp [DataW.trod] at h
  | succ n =>
    unfold DataW.trod at h
    rw [ht] at h
    have r3 : List.range 2 = [0, 1] := rfl
    simp [r3, hce] at h
    obtain ⟨_, h⟩ := h
    cases h0 : DataW.trod enc P w base spare held n e [c0] with
    | none => simp [h0] at h
    | some y0 =>
      cases h1 : DataW.trod enc P w base spare held n e [c1] with
      | none => simp [h0, h1] at h
      | some y1 => exact ⟨y0, y1, n, h0, h1⟩

/-- how the row's end is laid: the world has grown -/
theorem law_post {H : Type} {enc : TypeId × Value → H} {P : Program} {f : Func} {s : ChangeSpec} {apart fresh handsOn : Bool} {W W' : World} {args : Array Value} {v : Value} {ds gs : List (DataW H)} {before pr pa pv : List MemPlace}
    (hW : DataW.Whole enc P f.params.toList s.vars apart W args.toList ds gs before) (hL : Below W.heap.size W W')
    (hres : DataW.TrodAll enc P W' (match fresh with | true => W.heap.size | false => 0) (fun _ => false) handsOn f.resultTypes.toList (v.resultList f.resultTypes.size) (s.fn H (ds ++ gs)).results pr)
    (hargs : DataW.TrodAll enc P W' 0 (fun b => decide (b < W.heap.size)) true f.params.toList args.toList (s.fn H (ds ++ gs)).args pa)
    (hvars : DataW.TrodVars enc P W' (fun b => decide (b < W.heap.size)) s.vars (s.fn H (ds ++ gs)).vars pv) : s.post enc P f apart fresh handsOn false W args v W' :=
  ⟨ds, gs, before, pr, pa, pv, hW, hres, hargs, hvars, hL.frame _, fun h => by cases h⟩
end Go.Proofs.Ytdheckfndldbmaa

namespace Go.Proofs.Ytdheckfndldbmaa
open Go.ChangeShapes Go.WideShapes Go.ChangeAt Go.RowKit

theorem cells_pair : Try.prog.cellsOf 24 = 2 := by kernel_rfl

set_option maxRecDepth 100000 in
theorem news_lifted (os : Os) (started : os.Started) (H : Type) (enc : TypeId × Value → H) :
    ReturnsInHanded {} Try.checked os 3 .any (Rows.monitorNewsSpec.pre6 enc Try.prog Try.f3 Rows.monitorNewsRow.domain false) (Rows.monitorNewsSpec.post enc Try.prog Try.f3 false true false false) := by
  refine returnsInHanded_of_change (C := Try.checked) own_knob started (by kernel_rfl) Try.func3
    (ChangeSpec.witness6 (enc := enc) (C := Try.checked) false ⟨#[], #[.slice none 0 0], []⟩ 8 (by kernel_rfl) (by kernel_rfl) (by kernel_rfl) (by kernel_rfl)) ?_
  intro W base args ds gs before hval0 hW _ _
  have hval : ∀ (j : Nat) t v, Try.f3.params[j]? = some t → args[j]? = some v → Value.okWide Try.prog W .any base t v := hval0
  have hW' := hW
  obtain ⟨p, q, hA0, hV, rfl, hfz, _⟩ := hW
  have hA : DataW.TrodAll enc Try.prog W 0 (fun _ => true) true Try.f3.params.toList args.toList ds p := hA0
  rw [Try.params3] at hA hval
  obtain ⟨v0, d0, rfl, rfl, h0⟩ := trodAll_one hA
  obtain ⟨rfl, rfl⟩ := trodVars_none hV
  obtain ⟨a0, len, cap, rfl⟩ := okWide_slice Try.underlying22 (hval 0 22 v0 rfl rfl)
  have h0k := h0
  obtain ⟨fuel, hf⟩ := h0
  clear hA0 hval0
  simp only [List.append_nil] at hW'
  have hlt : ∀ x ∈ p, x.block < W.heap.size := fun x hx => by simpa using hW'.lt x hx
  obtain ⟨xs, hR, hl, hm, -⟩ := rd_open (encA := encP) (ok := fun _ => True) Try.underlying22 cells_pair (by decide) (fun _ => rfl) (fun n cs x hcs ht => by
    match cs, hcs with
    | [c0, c1], _ =>
      obtain ⟨y0, y1, n, h0, h1⟩ := trod_array2 Try.underlying24 cells_int ht
      obtain ⟨i0, e0, -, -⟩ := DataW.trod_int Try.underlying3 h0
      obtain ⟨i1, e1, -, -⟩ := DataW.trod_int Try.underlying3 h1
      cases e0; cases e1
      exact ⟨(i0, i1), rfl, trivial⟩) hf
  unfold maxLen at hm
  refine (news_c a0 len cap xs W (by omega) hR).mono fun e W' ⟨he, hL⟩ => ?_
  subst he
  refine ⟨_, rfl, law_post (ds := [d0]) (gs := []) (pr := []) (pa := p) (pv := []) (by simpa using hW') hL ?_ ?_ ?_⟩
  · exact trodAll_mk1 (shut_bool Try.underlying4 true)
  · exact trodAll_mk1 (Below.trod laid_out (by kernel_rfl) (of_decide_eq_true (by kernel_rfl)) h0k hL hlt)
  · rfl

theorem monitorNews_holds : Rows.MonitorNewsSaid :=
  OpenClaim.holds_of_wide 3 Try.f3 rfl rfl rfl rfl rfl rfl rfl ⟨rfl, rfl, rfl, rfl, rfl⟩ rfl rfl rfl rfl rfl (by kernel_rfl) Try.func3 (by kernel_rfl)
    (of_decide_eq_true (by kernel_rfl)) (by unfold Func.isWrapper; first | (rw [if_pos (by decide +kernel)]; kernel_rfl) | (rw [if_neg (by decide +kernel)]; exact ⟨rfl, rfl⟩))
    (fun os started H enc _ => news_lifted os started H enc)
end Go.Proofs.Ytdheckfndldbmaa
