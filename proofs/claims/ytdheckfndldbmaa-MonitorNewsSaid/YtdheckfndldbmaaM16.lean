/- wakes. -/
import Derived.Test.YtdheckfndldbmaaM15
namespace Go.Proofs.Ytdheckfndldbmaa
open Go.RowKit
attribute [local go_sem] merge_t merge_f merge_a merge_o

theorem two_boxes (w : World) : ∃ wb, Hid ((w.alloc (.cells #[.int .i64 0, .int .u64 0] 43)).alloc (.cells #[.int .i64 0, .int .u64 0] 43) = wb) ∧ Later w wb ∧ wb.heap.size = w.heap.size + 2 ∧
    Box wb w.heap.size #[.int .i64 0, .int .u64 0] 43 ∧ Box wb (w.heap.size + 1) #[.int .i64 0, .int .u64 0] 43 := by
  refine ⟨_, rfl, ((Later.refl _).alloc _).alloc _, by simp, (Box.new _ _ _).alloc _, ?_⟩
  have := Box.new (w.alloc (.cells #[.int .i64 0, .int .u64 0] 43)) #[.int .i64 0, .int .u64 0] 43
  rwa [World.size_alloc] at this
theorem mnew22 (W : World) : Calls Try.prog 8 #[.int .i64 2, .int .i64 2] W fun r w' => Later W w' ∧ ∃ v, r = .returned (.tuple #[v, .int .i64 0]) ∧ RMon 128 w' v (newM 2 2) :=
  (mnew_c 2 2 W).mono fun r w' h => by
    unfold MNewP at h
    rw [if_pos (by decide)] at h
    exact h

theorem run_go (B : Nat) (v : Value) (m : MonD) (A : Option Addr) (nl cl : Nat) (l : List W4) (W : World) (m' : MonD) (tk : List E2) (hrun : runM m l = .ok (m', tk)) (hB : B + nl ≤ 800000) (hM : RMon B W v m) (h0 : ∀ s ∈ m.slabs, 0 ≤ s.2) (hl : Rd 4 encW W A nl l) :
    Calls Try.prog 29 #[v, .slice A nl cl] W fun r w' => ∃ s : Gh, r = .returned (.tuple #[s.v, .slice s.A tk.length s.c, .int .i64 0]) ∧ Later W w' ∧ ∀ V, Chg (Old W w') w' V → RunRes (B + nl + 128) m' tk s V := by
  refine (mrun_c B v m A nl cl l W hB hM h0 hl).mono fun r w' h => ?_
  unfold RunP at h
  rw [hrun] at h
  obtain ⟨hL, v', A', n, c, rfl, h1, h2, h3⟩ := h
  have hn : tk.length = n := (h3 w' (.refl _ _)).2.1
  exact ⟨⟨A', 0, c, v'⟩, by rw [hn], hL, fun V hV => ⟨(h3 V hV).1, by rw [hn]; exact (h3 V hV).2, by rw [hn]; exact h1, h2⟩⟩
theorem do_go (B : Nat) (v : Value) (m : MonD) (kd gi s g : Int) (W : World) (m' : MonD) (tk : List E2) (hrun : doM m (kd, gi, s, g) = .ok (m', tk)) (hB : B ≤ 800000) (hM : RMon B W v m) (h0 : ∀ s ∈ m.slabs, 0 ≤ s.2) :
    Calls Try.prog 14 #[v, .agg #[.int .i64 kd, .int .i64 gi, .int .i64 s, .int .u64 g]] W fun r w' => ∃ s : Gh, r = .returned (.tuple #[s.v, .agg #[.int .i64 (tk.getLastD (0, 0)).1, .int .u64 (tk.getLastD (0, 0)).2], .int .i64 0]) ∧ Later W w' ∧ ∀ V, Chg (Old W w') w' V → DoRes (B + 129) m' s V := by
  refine (mdo_c B v m kd gi s g W hB hM h0).mono fun r w' h => ?_
  unfold DoP at h
  rw [hrun] at h
  obtain ⟨hL, v', rfl, h3⟩ := h
  exact ⟨⟨none, 0, 0, v'⟩, rfl, hL, h3⟩
theorem chg_later {w3 w4 W : World} {b : Nat} (hL : Later w3 w4) (hb : w3.heap.size ≤ b) (hC : Chg (fun i => i = b) w4 W) : Later w3 W := ((Chg.of_later hL).trans hC).to_later fun i hi e => by omega
def w4V (y : W4) : Value := .agg #[.int .i64 y.1, .int .i64 y.2.1, .int .i64 y.2.2.1, .int .u64 y.2.2.2]
def F3 (old : Value) (n : Nat) : Nat → Gh → Value
  | 0, _ => old
  | 2, _ => w4V (1, 0, 0, 0)
  | 4, _ => w4V (6, 0, 0, 0)
  | 6, _ => w4V (1, 1, 0, 0)
  | 8, _ => w4V (3, 1, 0, 0)
  | 9, s => .slice (some ⟨s.n, 0, none⟩) 4 4
  | 10, s => .tuple #[s.v, .slice s.A n s.c, .int .i64 0]
  | _, _ => undef

def F4 (n : Nat) : Nat → Gh → Value
  | 2, _ => w4V (7, 0, 0, 0)
  | 4, _ => w4V (8, 0, 0, 0)
  | 6, _ => w4V (6, 0, 0, 0)
  | 8, _ => w4V (4, 1, 0, 0)
  | 9, s => .slice (some ⟨s.n, 0, none⟩) 4 4
  | 10, s => .tuple #[s.v, .slice s.A n s.c, .int .i64 0]
  | 15, s => .pointer (some ⟨s.n, 0, none⟩)
  | _, _ => undef
def F5 (e : E2) (er : Int) (y : W4) : Nat → Gh → Value
  | 2, _ => w4V y
  | 3, s => .tuple #[s.v, .agg #[.int .i64 e.1, .int .u64 e.2], .int .i64 er]
  | 8, s => .pointer (some ⟨s.n, 0, none⟩)
  | 9, s => .pointer (some ⟨s.n, 0, none⟩)
  | _, _ => undef

def NilRes (s : Gh) (_ : World) : Prop := s.v = .agg #[.slice none 0 0, .slice none 0 0, .slice none 0 0, .slice none 0 0]
theorem NilRes.val {s : Gh} {W : World} (h : NilRes s W) : ∃ A0 n0 c0 A1 n1 c1 A2 n2 c2 A3 n3 c3, s.v = .agg #[.slice A0 n0 c0, .slice A1 n1 c1, .slice A2 n2 c2, .slice A3 n3 c3] := ⟨none, 0, 0, none, 0, 0, none, 0, 0, none, 0, 0, h⟩
theorem do_er (B : Nat) (v : Value) (m : MonD) (kd gi s g : Int) (W : World) (k : Int) (hrun : doM m (kd, gi, s, g) = .error k) (hB : B ≤ 800000) (hM : RMon B W v m) (h0 : ∀ s ∈ m.slabs, 0 ≤ s.2) :
    Calls Try.prog 14 #[v, .agg #[.int .i64 kd, .int .i64 gi, .int .i64 s, .int .u64 g]] W fun r w' => ∃ s : Gh, r = .returned (.tuple #[s.v, .agg #[.int .i64 0, .int .u64 0], .int .i64 k]) ∧ Later W w' ∧ ∀ V, Chg (Old W w') w' V → NilRes s V := by
  refine (mdo_c B v m kd gi s g W hB hM h0).mono fun r w' h => ?_
  unfold DoP at h
  rw [hrun] at h
  obtain ⟨hL, rfl⟩ := h
  exact ⟨⟨none, 0, 0, .agg #[.slice none 0 0, .slice none 0 0, .slice none 0 0, .slice none 0 0]⟩, rfl, hL, fun _ _ => rfl⟩
def F8 : Nat → Gh → Value
  | 25, s => .slice (some ⟨s.n, 0, none⟩) 1 1
  | 31, s => .slice (some ⟨s.n, 0, none⟩) 1 1
  | 37, s => .slice s.A 2 s.c
  | 38, s => .slice (some ⟨s.n, 0, none⟩) 2 2
  | 44, _ => .bool false
  | 57, _ => .bool false
  | 50, _ => w4V (4, 1, 0, 0)
  | 56, _ => w4V (5, 1, 0, 0)
  | 63, _ => w4V (4, 1, 0, 0)
  | _, _ => .bool true
def w8E (i : Nat) : Bool := i == 25 || i == 26 || i == 31 || i == 32 || i == 37 || i == 38 || i == 39 || i == 44 || i == 50 || i == 51 || i == 56 || i == 57 || i == 63 || i == 64
def w8V : Nat → (Nat → Gh) → World → Prop
  | 25, t, W => Box W (t 25).n (flat encE [(0, 0)]).toArray 43
  | 31, t, W => Box W (t 31).n (flat encE [(0, 1)]).toArray 43
  | 37, t, W => Rd 1 encI W (t 37).A 2 [0, 1]
  | 38, t, W => Box W (t 38).n (flat encI [0, 1]).toArray 3
  | _, _, _ => True
theorem w8VL : ∀ j t W W', w8V j t W → Later W W' → w8V j t W' := by
  intro j t W W' h hL
  unfold w8V at *
  split at h
  · exact Box.later h hL
  · exact Box.later h hL
  · exact Rd.later h hL
  · exact Box.later h hL
  · trivial
theorem w8Loc : ∀ j (t t' : Nat → Gh) W, t j = t' j → (∀ k, k ∈ gU0 j → t k = t' k) → w8V j t W → w8V j t' W := by
  intro j t t' W _ _ hV
  unfold w8V at *
  split at hV <;> simp_all
theorem DoRes.val {B : Nat} {m : MonD} {s : Gh} {W : World} (h : DoRes B m s W) : ∃ A0 n0 c0 A1 n1 c1 A2 n2 c2 A3 n3 c3, s.v = .agg #[.slice A0 n0 c0, .slice A1 n1 c1, .slice A2 n2 c2, .slice A3 n3 c3] :=
  let ⟨A0, n0, c0, A1, n1, c1, A2, n2, c2, A3, n3, c3, ev, _⟩ := (show RMon B W s.v m from h); ⟨A0, n0, c0, A1, n1, c1, A2, n2, c2, A3, n3, c3, ev⟩

set_option maxRecDepth 100000 in
set_option maxHeartbeats 8000000 in
theorem wakes_c (w : World) : Calls Try.prog 7 #[] w fun r w' => r = .returned (.bool true) ∧ Later w w' := by
  obtain ⟨wb, hwb, hL, hwz, b1, b2⟩ := two_boxes w
  have hwe := hwb.out
  have c10 := b1.cell (i := 0) rfl
  have c11 := b1.cell (i := 1) rfl
  have f1 := b1.frozen
  have c20 := b2.cell (i := 0) rfl
  have c21 := b2.cell (i := 1) rfl
  have f2 := b2.frozen
  have d1 := ((b1.set2 (.int .i64 0) (.int .u64 0)).set_other (g' := w.heap.size + 1) (by omega) 0 (.int .i64 0)).set_other (g' := w.heap.size + 1) (by omega) 1 (.int .u64 0)
  have d2 := ((b2.set_other (g' := w.heap.size) (by omega) 0 (.int .i64 0)).set_other (g' := w.heap.size) (by omega) 1 (.int .u64 0)).set2 (.int .i64 0) (.int .u64 0)
  have hL2 := ((((hL.set (b := w.heap.size) (o := 0) (by omega) (.int .i64 0)).set (b := w.heap.size) (o := 1) (by omega) (.int .u64 0)).set (b := w.heap.size + 1) (o := 0) (by omega) (.int .i64 0)).set (b := w.heap.size + 1) (o := 1) (by omega) (.int .u64 0))
  obtain ⟨w2, hw2⟩ : ∃ w2, (((wb.setCell ⟨w.heap.size, 0, none⟩ (.int .i64 0)).setCell ⟨w.heap.size, 1, none⟩ (.int .u64 0)).setCell ⟨w.heap.size + 1, 0, none⟩ (.int .i64 0)).setCell ⟨w.heap.size + 1, 1, none⟩ (.int .u64 0) = w2 := ⟨_, rfl⟩
  rw [hw2] at d1 d2 hL2
  have D1 := Lib.hid d1
  have D2 := Lib.hid d2
  have hz2 : w2.heap.size = w.heap.size + 2 := by rw [← hw2]; simpa using hwz
  clear b1 b2 d1 d2 hwb hwz
  go_enter Try.func7, Try.ntmps7
  go_wp2_with fail
  (refine (mnew22 _).mono ?_); rintro e w3 ⟨hL3, v0, rfl, hM0⟩; obtain ⟨A0, n0, c0, A1, n1, c1, A2, n2, c2, A3, n3, c3, ev, hR⟩ := hM0; subst ev
  have k1 := D1.out.later hL3
  have k2 := D2.out.later hL3
  have hz3 := hL3.sz
  have hM3 : RMon 128 w3 (.agg #[.slice A0 n0 c0, .slice A1 n1 c1, .slice A2 n2 c2, .slice A3 n3 c3]) (newM 2 2) := ⟨_, _, _, _, _, _, _, _, _, _, _, _, rfl, hR⟩
  have hLw3 := hL2.trans hL3
  have HL3 := Lib.hid hLw3
  obtain ⟨w4, hw4, hL4, -, -, -⟩ := box1 w3 #[.slice A0 n0 c0, .slice A1 n1 c1, .slice A2 n2 c2, .slice A3 n3 c3] 32
  have hb3 : Box w4 w3.heap.size #[.slice A0 n0 c0, .slice A1 n1 c1, .slice A2 n2 c2, .slice A3 n3 c3] 32 := by rw [← hw4.out]; exact Box.new _ _ _
  have K1 := Lib.hid (k1.later hL4)
  have K2 := Lib.hid (k2.later hL4)
  have HM := Lib.hid hM3
  have HLt : Hid (∀ W, Chg (fun i => i = w3.heap.size) w4 W → Later w3 W) := fun W hC => chg_later hL4 (Nat.le_refl _) hC
  have HB3 := Lib.hid hb3
  have HL4 := Lib.hid (hLw3.trans hL4)
  have hwe4 := hw4.out
  have hz4 := hL4.sz
  obtain ⟨b3, hb3e⟩ : ∃ b3, w3.heap.size = b3 := ⟨_, rfl⟩
  rw [hb3e] at HB3 HLt
  have y10 := celS (S := fun i => i = b3) (by omega) (K1.out.cell (i := 0) rfl)
  have y11 := celS (S := fun i => i = b3) (by omega) (K1.out.cell (i := 1) rfl)
  have y20 := celS (S := fun i => i = b3) (by omega) (K2.out.cell (i := 0) rfl)
  have y21 := celS (S := fun i => i = b3) (by omega) (K2.out.cell (i := 1) rfl)
  clear hL4 hw4 hb3 k1 k2 hM3 hR hLw3 c10 c11 c20 c21 f1 f2 hL hL2 hL3
  go_wp2
  refine Z.region_j (S := (Chg (fun i => i = b3) w4)) (J := (J3 w4 b3 #[.slice A0 n0 c0, .slice A1 n1 c1, .slice A2 n2 c2, .slice A3 n3 c3] wkL1 (RunRes 260 wk1 [(0, 0)]))) (af := ?_) 17 (F3 (.agg #[.slice A0 n0 c0, .slice A1 n1 c1, .slice A2 n2 c2, .slice A3 n3 c3]) 1) j3E (by kernel_rfl) (by kernel_rfl) (by decide) (by kernel_rfl) (fun _ _ _ h => h.ch) (fun _ _ _ _ he h => h.je he) (fun _ => ⟨Chg.of_later ((Later.refl _).drew), fun h => h.elim, ⟨_, _, _, _, HB3.out.drew, fun h => h.elim, fun _ => rfl⟩, fun h => h.elim, fun h => h.elim⟩) ?_ ?_
  rotate_left
  · intro t
    repeat (first
      | (refine Z.SeqT.val (v := ?_) (by rfl) (by rfl) (fun W hW => ?_) ?_; rotate_left; (· (go_simp; try with_reducible rfl)); try simp only [Act.put, List.setIfInBounds_toArray, List.set_cons_zero, List.set_cons_succ])
      | (refine Z.SeqT.skip (by rfl) (by rfl) ?_; try simp only [Act.put, List.setIfInBounds_toArray, List.set_cons_zero, List.set_cons_succ])
      | (refine Z.SeqT.make (.agg #[.slice A0 n0 c0, .slice A1 n1 c1, .slice A2 n2 c2, .slice A3 n3 c3]) (by rfl) (by rfl) (by rfl) (fun D W hD => ?_) ?_; (· ((obtain ⟨z0, z1, z2, z3, hb, -, ho⟩ := hD.st.bx; have ho := ho (fun h => hD.new (hD.st.d15 h).1); cases ho; have q0 := hb.cell (i := 0) rfl; have q1 := hb.cell (i := 1) rfl; have q2 := hb.cell (i := 2) rfl; have q3 := hb.cell (i := 3) rfl; exact ⟨default, W, by go_simp; rfl, hD.st.o0 hD.new _⟩))); try simp only [Act.put, List.setIfInBounds_toArray, List.set_cons_zero, List.set_cons_succ])
      | (refine Z.SeqT.call (g := ?_) (args := ?_) (.agg #[.int .i64 1, .int .i64 0, .int .i64 0, .int .u64 0]) (by rfl) (by rfl) (by rfl) (fun W => ?_) (fun D W hD => ?_) ?_; rotate_left 2; (· (go_simp; first | with_reducible rfl | (refine ⟨?_, ?_⟩ <;> with_reducible rfl))); (· (exact (watch_c 1 0 0 0 W).mono fun e W2 h => ⟨default, h.1, hD.st.else _ (by decide) _ h.2⟩)); try simp only [Act.put, List.setIfInBounds_toArray, List.set_cons_zero, List.set_cons_succ])
      | (refine Z.SeqT.call (g := ?_) (args := ?_) (.agg #[.int .i64 6, .int .i64 0, .int .i64 0, .int .u64 0]) (by rfl) (by rfl) (by rfl) (fun W => ?_) (fun D W hD => ?_) ?_; rotate_left 2; (· (go_simp; first | with_reducible rfl | (refine ⟨?_, ?_⟩ <;> with_reducible rfl))); (· (exact (watch_c 6 0 0 0 W).mono fun e W2 h => ⟨default, h.1, hD.st.else _ (by decide) _ h.2⟩)); try simp only [Act.put, List.setIfInBounds_toArray, List.set_cons_zero, List.set_cons_succ])
      | (refine Z.SeqT.call (g := ?_) (args := ?_) (.agg #[.int .i64 1, .int .i64 1, .int .i64 0, .int .u64 0]) (by rfl) (by rfl) (by rfl) (fun W => ?_) (fun D W hD => ?_) ?_; rotate_left 2; (· (go_simp; first | with_reducible rfl | (refine ⟨?_, ?_⟩ <;> with_reducible rfl))); (· (exact (watch_c 1 1 0 0 W).mono fun e W2 h => ⟨default, h.1, hD.st.else _ (by decide) _ h.2⟩)); try simp only [Act.put, List.setIfInBounds_toArray, List.set_cons_zero, List.set_cons_succ])
      | (refine Z.SeqT.call (g := ?_) (args := ?_) (.agg #[.int .i64 3, .int .i64 1, .int .i64 0, .int .u64 0]) (by rfl) (by rfl) (by rfl) (fun W => ?_) (fun D W hD => ?_) ?_; rotate_left 2; (· (go_simp; first | with_reducible rfl | (refine ⟨?_, ?_⟩ <;> with_reducible rfl))); (· (exact (watch_c 3 1 0 0 W).mono fun e W2 h => ⟨default, h.1, hD.st.else _ (by decide) _ h.2⟩)); try simp only [Act.put, List.setIfInBounds_toArray, List.set_cons_zero, List.set_cons_succ])
      | (refine Z.SeqT.make (.slice (some ⟨(t 9).n, 0, none⟩) 4 4) (by rfl) (by rfl) (by rfl) (fun D W hD => ?_) ?_; (· (exact ⟨⟨none, W.heap.size, 0, undef⟩, W.alloc (.cells (flat encW wkL1).toArray 45), by go_simp; first | rfl | exact ⟨rfl, rfl⟩, hD.st.o9 ((Later.refl W).alloc _) (Box.new _ _ _)⟩)); try simp only [Act.put, List.setIfInBounds_toArray, List.set_cons_zero, List.set_cons_succ])
      | (refine Z.SeqT.call (g := ?_) (args := ?_) (.tuple #[(t 10).v, .slice (t 10).A 1 (t 10).c, .int .i64 0]) (by rfl) (by rfl) (by rfl) (fun W => ?_) (fun D W hD => ?_) ?_; rotate_left 2; (· (go_simp; first | with_reducible rfl | (refine ⟨?_, ?_⟩ <;> with_reducible rfl))); (· (exact (run_go 128 _ (newM 2 2) _ 4 4 wkL1 W wk1 [(0, 0)] wk_run1 (by decide) (HM.out.later (HLt.out W hD.st.ch)) (by decide) ((hD.st.d9 (hD.got 9 ⟨{ on := 9, ground := Ground.data }, by simp, rfl, rfl⟩)).rd enc_W)).mono fun e W2 ⟨s, h1, h2, h3⟩ => ⟨s, h1, hD.st.o10 hD.new h2 h3⟩)); try simp only [Act.put, List.setIfInBounds_toArray, List.set_cons_zero, List.set_cons_succ])
      | (refine Z.SeqT.store (by rfl) (by rfl) (fun _ => by rfl) (fun D W hD => ?_) ?_; (· ((have h10 := hD.got 10 ⟨{ on := 10, ground := Ground.chain }, by simp, rfl, rfl⟩; have h0 := hD.got 0 ⟨{ on := 0, ground := Ground.phase }, by simp, rfl, rfl⟩; obtain ⟨A0', n0', c0', A1', n1', c1', A2', n2', c2', A3', n3', c3', ev, -⟩ := (hD.st.d10 h10).res.1; obtain ⟨z0, z1, z2, z3, hb, -, -⟩ := hD.st.bx; have q0 := hb.cell (i := 0) rfl; have q1 := hb.cell (i := 1) rfl; have q2 := hb.cell (i := 2) rfl; have q3 := hb.cell (i := 3) rfl; have qf := hb.frozen; have hJ := hD.st.o15 (s := default) h0 h10 ev; exact ⟨_, by rw [ev]; go_simp, hJ⟩))); try simp only [Act.put, List.setIfInBounds_toArray, List.set_cons_zero, List.set_cons_succ])
      )
    exact Z.SeqT.nil _
  intro t w5 hJ
  refine wpList_is (l' := [_]) rfl ?_
  obtain ⟨⟨A4, n4, c4, A5, n5, c5, A6, n6, c6, A7, n7, c7, ev, hR⟩, hRt, hct1, hct2⟩ := (hJ.d10 (by decide)).res
  obtain ⟨z0, z1, z2, z3, hb, hz, -⟩ := hJ.bx
  have hz := hz (by decide)
  have hch := hJ.ch
  generalize (t 10).v = vt at *
  generalize (t 10).A = At at *
  generalize (t 10).c = ct at *
  subst hz
  cases ev
  have hM1 : RMon 260 w5 (.agg #[.slice A4 n4 c4, .slice A5 n5 c5, .slice A6 n6 c6, .slice A7 n7 c7]) wk1 := ⟨_, _, _, _, _, _, _, _, _, _, _, _, rfl, hR⟩
  have k1 := K1.out.chg hch (by omega)
  have k2 := K2.out.chg hch (by omega)
  have hLw : Later w w5 := HL3.out.trans (HLt.out w5 hch)
  have hzW := hch.size
  clear hJ hR hch y10 y11 y20 y21 hwe4 HLt HL4 HL3 HB3 HM K1 K2 D1 D2 hwe hw2
  have HM1 := Lib.hid hM1
  have HT1 : Hid (Rd 2 encE w5 At 1 [(0, 0)] ∧ 1 ≤ ct ∧ ct ≤ 9223372036854775807) := ⟨hRt, hct1, hct2⟩
  have HLw := Lib.hid hLw
  have y10 := cel (k1.cell (i := 0) rfl)
  have y11 := cel (k1.cell (i := 1) rfl)
  have y20 := cel (k2.cell (i := 0) rfl)
  have y21 := cel (k2.cell (i := 1) rfl)
  have y30 := cel (hb.cell (i := 0) rfl)
  have y31 := cel (hb.cell (i := 1) rfl)
  have y32 := cel (hb.cell (i := 2) rfl)
  have y33 := cel (hb.cell (i := 3) rfl)
  clear hM1 hRt hct1 hct2 hLw hb k1 k2
  go_wp2
  refine Z.region_j (S := (Later w5)) (J := (J4 w5 wkL2 (RunRes 392 wk2 [(0, 1)]))) (af := ?_) 18 (F4 1) j4E (by kernel_rfl) (by kernel_rfl) (by decide) (by kernel_rfl) (fun _ _ _ h => h.la) (fun _ _ _ _ he h => h.je he) (fun _ => ⟨(Later.refl _).drew, fun h => h.elim, fun h => h.elim, fun h => h.elim, fun h => h.elim⟩) ?_ ?_
  rotate_left
  · intro t
    repeat (first
      | (refine Z.SeqT.val (v := ?_) (by rfl) (by rfl) (fun W hW => ?_) ?_; rotate_left; (· (go_simp; try with_reducible rfl)); try simp only [Act.put, List.setIfInBounds_toArray, List.set_cons_zero, List.set_cons_succ])
      | (refine Z.SeqT.skip (by rfl) (by rfl) ?_; try simp only [Act.put, List.setIfInBounds_toArray, List.set_cons_zero, List.set_cons_succ])
      | (refine Z.SeqT.call (g := ?_) (args := ?_) (.agg #[.int .i64 7, .int .i64 0, .int .i64 0, .int .u64 0]) (by rfl) (by rfl) (by rfl) (fun W => ?_) (fun D W hD => ?_) ?_; rotate_left 2; (· (go_simp; first | with_reducible rfl | (refine ⟨?_, ?_⟩ <;> with_reducible rfl))); (· (exact (watch_c 7 0 0 0 W).mono fun e W2 h => ⟨default, h.1, hD.st.else _ (by decide) _ h.2⟩)); try simp only [Act.put, List.setIfInBounds_toArray, List.set_cons_zero, List.set_cons_succ])
      | (refine Z.SeqT.call (g := ?_) (args := ?_) (.agg #[.int .i64 8, .int .i64 0, .int .i64 0, .int .u64 0]) (by rfl) (by rfl) (by rfl) (fun W => ?_) (fun D W hD => ?_) ?_; rotate_left 2; (· (go_simp; first | with_reducible rfl | (refine ⟨?_, ?_⟩ <;> with_reducible rfl))); (· (exact (watch_c 8 0 0 0 W).mono fun e W2 h => ⟨default, h.1, hD.st.else _ (by decide) _ h.2⟩)); try simp only [Act.put, List.setIfInBounds_toArray, List.set_cons_zero, List.set_cons_succ])
      | (refine Z.SeqT.call (g := ?_) (args := ?_) (.agg #[.int .i64 6, .int .i64 0, .int .i64 0, .int .u64 0]) (by rfl) (by rfl) (by rfl) (fun W => ?_) (fun D W hD => ?_) ?_; rotate_left 2; (· (go_simp; first | with_reducible rfl | (refine ⟨?_, ?_⟩ <;> with_reducible rfl))); (· (exact (watch_c 6 0 0 0 W).mono fun e W2 h => ⟨default, h.1, hD.st.else _ (by decide) _ h.2⟩)); try simp only [Act.put, List.setIfInBounds_toArray, List.set_cons_zero, List.set_cons_succ])
      | (refine Z.SeqT.call (g := ?_) (args := ?_) (.agg #[.int .i64 4, .int .i64 1, .int .i64 0, .int .u64 0]) (by rfl) (by rfl) (by rfl) (fun W => ?_) (fun D W hD => ?_) ?_; rotate_left 2; (· (go_simp; first | with_reducible rfl | (refine ⟨?_, ?_⟩ <;> with_reducible rfl))); (· (exact (watch_c 4 1 0 0 W).mono fun e W2 h => ⟨default, h.1, hD.st.else _ (by decide) _ h.2⟩)); try simp only [Act.put, List.setIfInBounds_toArray, List.set_cons_zero, List.set_cons_succ])
      | (refine Z.SeqT.make (.slice (some ⟨(t 9).n, 0, none⟩) 4 4) (by rfl) (by rfl) (by rfl) (fun D W hD => ?_) ?_; (· (exact ⟨⟨none, W.heap.size, 0, undef⟩, W.alloc (.cells (flat encW wkL2).toArray 45), by go_simp; first | rfl | exact ⟨rfl, rfl⟩, hD.st.o9 ((Later.refl W).alloc _) (Box.new _ _ _)⟩)); try simp only [Act.put, List.setIfInBounds_toArray, List.set_cons_zero, List.set_cons_succ])
      | (refine Z.SeqT.call (g := ?_) (args := ?_) (.tuple #[(t 10).v, .slice (t 10).A 1 (t 10).c, .int .i64 0]) (by rfl) (by rfl) (by rfl) (fun W => ?_) (fun D W hD => ?_) ?_; rotate_left 2; (· (go_simp; first | with_reducible rfl | (refine ⟨?_, ?_⟩ <;> with_reducible rfl))); (· (exact (run_go 260 _ wk1 _ 4 4 wkL2 W wk2 [(0, 1)] wk_run2 (by decide) (HM1.out.later hD.st.la) (by decide) ((hD.st.d9 (hD.got 9 ⟨{ on := 9, ground := Ground.data }, by simp, rfl, rfl⟩)).rd enc_W)).mono fun e W2 ⟨s, h1, h2, h3⟩ => ⟨s, h1, hD.st.o10 hD.new h2 h3⟩)); try simp only [Act.put, List.setIfInBounds_toArray, List.set_cons_zero, List.set_cons_succ])
      | (refine Z.SeqT.make (.pointer (some ⟨(t 15).n, 0, none⟩)) (by rfl) (by rfl) (by rfl) (fun D W hD => ?_) ?_; (· (exact ⟨⟨none, W.heap.size, 0, undef⟩, W.alloc (.cells #[.slice none 0 0, .slice none 0 0, .slice none 0 0, .slice none 0 0] 32), by go_simp; first | rfl | exact ⟨rfl, rfl⟩, hD.st.o15 hD.new ((Later.refl W).alloc _) rfl (Box.new _ _ _)⟩)); try simp only [Act.put, List.setIfInBounds_toArray, List.set_cons_zero, List.set_cons_succ])
      | (refine Z.SeqT.store (by rfl) (by rfl) (fun _ => by rfl) (fun D W hD => ?_) ?_; (· ((have h10 := hD.got 10 ⟨{ on := 10, ground := Ground.chain }, by simp, rfl, rfl⟩; have h15 := hD.got 15 ⟨{ on := 15, ground := Ground.data }, by simp, rfl, rfl⟩; obtain ⟨A0', n0', c0', A1', n1', c1', A2', n2', c2', A3', n3', c3', ev, -⟩ := (hD.st.d10 h10).res.1; obtain ⟨-, z0, z1, z2, z3, hb, -⟩ := hD.st.d15 h15; have q0 := hb.cell (i := 0) rfl; have q1 := hb.cell (i := 1) rfl; have q2 := hb.cell (i := 2) rfl; have q3 := hb.cell (i := 3) rfl; have qf := hb.frozen; have hJ := hD.st.o16 (s := default) h15 h10 ev; exact ⟨_, by rw [ev]; go_simp, hJ⟩))); try simp only [Act.put, List.setIfInBounds_toArray, List.set_cons_zero, List.set_cons_succ])
      )
    exact Z.SeqT.nil _
  intro t w6 hJ
  refine wpList_is (l' := [_]) rfl ?_
  obtain ⟨⟨A0, n0, c0, A1, n1, c1, A2, n2, c2, A3, n3, c3, ev, hR⟩, hRt, hcu1, hcu2⟩ := (hJ.d10 (by decide)).res
  obtain ⟨-, z0, z1, z2, z3, hb, hz⟩ := hJ.d15 (by decide)
  have hz := hz (by decide)
  have hL56 := hJ.la
  generalize (t 10).v = vt at *
  generalize (t 10).A = Au at *
  generalize (t 10).c = cu at *
  generalize (t 15).n = b7 at *
  subst hz
  cases ev
  have hM2 : RMon 392 w6 (.agg #[.slice A0 n0 c0, .slice A1 n1 c1, .slice A2 n2 c2, .slice A3 n3 c3]) wk2 := ⟨_, _, _, _, _, _, _, _, _, _, _, _, rfl, hR⟩
  have HM2 := Lib.hid hM2
  have HT2 : Hid (Rd 2 encE w6 Au 1 [(0, 1)] ∧ 1 ≤ cu ∧ cu ≤ 9223372036854775807) := ⟨hRt, hcu1, hcu2⟩
  have HL56 := Lib.hid hL56
  have x10 := celw hL56 y10
  have x11 := celw hL56 y11
  have x20 := celw hL56 y20
  have x21 := celw hL56 y21
  have x30 := celw hL56 y30
  have x31 := celw hL56 y31
  have x32 := celw hL56 y32
  have x33 := celw hL56 y33
  have x70 := cel (hb.cell (i := 0) rfl)
  have x71 := cel (hb.cell (i := 1) rfl)
  have x72 := cel (hb.cell (i := 2) rfl)
  have x73 := cel (hb.cell (i := 3) rfl)
  clear hJ hR hM2 hRt hcu1 hcu2 hb hL56 y10 y11 y20 y21 y30 y31 y32 y33
  go_wp2
  refine Z.region_j (S := (Later w6)) (J := (J5 w6 (DoRes 389 wk3))) (af := ?_) 12 (F5 (0, 0) 0 (7, 0, 0, 0)) j5E (by kernel_rfl) (by kernel_rfl) (by decide) (by kernel_rfl) (fun _ _ _ h => h.la) (fun _ _ _ _ he h => h.je he) (fun _ => ⟨(Later.refl _).drew, fun h => h.elim, fun h => h.elim, fun h => h.elim, fun h => h.elim⟩) ?_ ?_
  rotate_left
  · intro t
    repeat (first
      | (refine Z.SeqT.val (v := ?_) (by rfl) (by rfl) (fun W hW => ?_) ?_; rotate_left; (· (go_simp; try with_reducible rfl)); try simp only [Act.put, List.setIfInBounds_toArray, List.set_cons_zero, List.set_cons_succ])
      | (refine Z.SeqT.skip (by rfl) (by rfl) ?_; try simp only [Act.put, List.setIfInBounds_toArray, List.set_cons_zero, List.set_cons_succ])
      | (refine Z.SeqT.call (g := ?_) (args := ?_) (.agg #[.int .i64 7, .int .i64 0, .int .i64 0, .int .u64 0]) (by rfl) (by rfl) (by rfl) (fun W => ?_) (fun D W hD => ?_) ?_; rotate_left 2; (· (go_simp; first | with_reducible rfl | (refine ⟨?_, ?_⟩ <;> with_reducible rfl))); (· (exact (watch_c 7 0 0 0 W).mono fun e W2 h => ⟨default, h.1, hD.st.else _ (by decide) _ h.2⟩)); try simp only [Act.put, List.setIfInBounds_toArray, List.set_cons_zero, List.set_cons_succ])
      | (refine Z.SeqT.call (g := ?_) (args := ?_) (.tuple #[(t 3).v, .agg #[.int .i64 0, .int .u64 0], .int .i64 0]) (by rfl) (by rfl) (by rfl) (fun W => ?_) (fun D W hD => ?_) ?_; rotate_left 2; (· (go_simp; first | with_reducible rfl | (refine ⟨?_, ?_⟩ <;> with_reducible rfl))); (· (exact (do_go 260 _ wk1 7 0 0 0 W wk3 [] wk_do3 (by decide) (HM1.out.later (HL56.out.trans hD.st.la)) (by decide)).mono fun e W2 ⟨s, h1, h2, h3⟩ => ⟨s, h1, hD.st.o3 hD.new h2 h3⟩)); try simp only [Act.put, List.setIfInBounds_toArray, List.set_cons_zero, List.set_cons_succ])
      | (refine Z.SeqT.make (.pointer (some ⟨(t 8).n, 0, none⟩)) (by rfl) (by rfl) (by rfl) (fun D W hD => ?_) ?_; (· (exact ⟨⟨none, W.heap.size, 0, undef⟩, W.alloc (.cells #[.slice none 0 0, .slice none 0 0, .slice none 0 0, .slice none 0 0] 32), by go_simp; first | rfl | exact ⟨rfl, rfl⟩, hD.st.o8 hD.new ((Later.refl W).alloc _) rfl (Box.new _ _ _)⟩)); try simp only [Act.put, List.setIfInBounds_toArray, List.set_cons_zero, List.set_cons_succ])
      | (refine Z.SeqT.make (.pointer (some ⟨(t 9).n, 0, none⟩)) (by rfl) (by rfl) (by rfl) (fun D W hD => ?_) ?_; (· (exact ⟨⟨none, W.heap.size, 0, undef⟩, W.alloc (.cells #[.int .i64 0, .int .u64 0] 43), by go_simp; first | rfl | exact ⟨rfl, rfl⟩, hD.st.o9 ((Later.refl W).alloc _) rfl (Box.new _ _ _)⟩)); try simp only [Act.put, List.setIfInBounds_toArray, List.set_cons_zero, List.set_cons_succ])
      | (refine Z.SeqT.store (by rfl) (by rfl) (fun _ => by rfl) (fun D W hD => ?_) ?_; (· ((have h3 := hD.got 3 ⟨{ on := 3, ground := Ground.chain }, by simp, rfl, rfl⟩; have h8 := hD.got 8 ⟨{ on := 8, ground := Ground.data }, by simp, rfl, rfl⟩; obtain ⟨A0', n0', c0', A1', n1', c1', A2', n2', c2', A3', n3', c3', ev⟩ := DoRes.val (hD.st.d3 h3).res; obtain ⟨-, z0, z1, z2, z3, hb, -⟩ := hD.st.d8 h8; have q0 := hb.cell (i := 0) rfl; have q1 := hb.cell (i := 1) rfl; have q2 := hb.cell (i := 2) rfl; have q3 := hb.cell (i := 3) rfl; have qf := hb.frozen; have hJ := hD.st.o10 (s := default) h8 h3 ev; exact ⟨_, by rw [ev]; go_simp, hJ⟩))); try simp only [Act.put, List.setIfInBounds_toArray, List.set_cons_zero, List.set_cons_succ])
      | (refine Z.SeqT.store (by rfl) (by rfl) (fun _ => by rfl) (fun D W hD => ?_) ?_; (· ((have h9 := hD.got 9 ⟨{ on := 9, ground := Ground.data }, by simp, rfl, rfl⟩; obtain ⟨-, z0, z1, hb⟩ := hD.st.d9 h9; have q0 := hb.cell (i := 0) rfl; have q1 := hb.cell (i := 1) rfl; have qf := hb.frozen; have hJ := hD.st.o11 (s := default) h9 (.int .i64 0) (.int .u64 0); exact ⟨_, by go_simp, hJ⟩))); try simp only [Act.put, List.setIfInBounds_toArray, List.set_cons_zero, List.set_cons_succ])
      )
    exact Z.SeqT.nil _
  intro t w7 hJ
  refine wpList_is (l' := [_]) rfl ?_
  obtain ⟨Ae0, ne0, ce0, Ae1, ne1, ce1, Ae2, ne2, ce2, Ae3, ne3, ce3, ev, hR⟩ := (hJ.d3 (by decide)).res
  obtain ⟨-, z0, z1, z2, z3, hb, hz⟩ := hJ.d8 (by decide)
  have hz := hz (by decide)
  have hl67 := hJ.la
  generalize (t 3).v = vt at *
  generalize (t 8).n = b10 at *
  subst hz
  cases ev
  have hm3' : RMon 389 w7 (.agg #[.slice Ae0 ne0 ce0, .slice Ae1 ne1 ce1, .slice Ae2 ne2 ce2, .slice Ae3 ne3 ce3]) wk3 := ⟨_, _, _, _, _, _, _, _, _, _, _, _, rfl, hR⟩
  have HM3 := Lib.hid hm3'
  have HL67 := Lib.hid hl67
  have u10 := celw hl67 x10
  have u11 := celw hl67 x11
  have u20 := celw hl67 x20
  have u21 := celw hl67 x21
  have u30 := celw hl67 x30
  have u31 := celw hl67 x31
  have u32 := celw hl67 x32
  have u33 := celw hl67 x33
  have u70 := celw hl67 x70
  have u71 := celw hl67 x71
  have u72 := celw hl67 x72
  have u73 := celw hl67 x73
  have ua0 := cel (hb.cell (i := 0) rfl)
  have ua1 := cel (hb.cell (i := 1) rfl)
  have ua2 := cel (hb.cell (i := 2) rfl)
  have ua3 := cel (hb.cell (i := 3) rfl)
  clear hJ hR hm3' hb hl67 x10 x11 x20 x21 x30 x31 x32 x33 x70 x71 x72 x73
  go_wp2
  refine Z.region_j (S := (Later w7)) (J := (J5 w7 (DoRes 521 wk4))) (af := ?_) 12 (F5 (0, 0) 0 (2, 1, 0, 0)) j5E (by kernel_rfl) (by kernel_rfl) (by decide) (by kernel_rfl) (fun _ _ _ h => h.la) (fun _ _ _ _ he h => h.je he) (fun _ => ⟨(Later.refl _).drew, fun h => h.elim, fun h => h.elim, fun h => h.elim, fun h => h.elim⟩) ?_ ?_
  rotate_left
  · intro t
    repeat (first
      | (refine Z.SeqT.val (v := ?_) (by rfl) (by rfl) (fun W hW => ?_) ?_; rotate_left; (· (go_simp; try with_reducible rfl)); try simp only [Act.put, List.setIfInBounds_toArray, List.set_cons_zero, List.set_cons_succ])
      | (refine Z.SeqT.skip (by rfl) (by rfl) ?_; try simp only [Act.put, List.setIfInBounds_toArray, List.set_cons_zero, List.set_cons_succ])
      | (refine Z.SeqT.call (g := ?_) (args := ?_) (.agg #[.int .i64 2, .int .i64 1, .int .i64 0, .int .u64 0]) (by rfl) (by rfl) (by rfl) (fun W => ?_) (fun D W hD => ?_) ?_; rotate_left 2; (· (go_simp; first | with_reducible rfl | (refine ⟨?_, ?_⟩ <;> with_reducible rfl))); (· (exact (watch_c 2 1 0 0 W).mono fun e W2 h => ⟨default, h.1, hD.st.else _ (by decide) _ h.2⟩)); try simp only [Act.put, List.setIfInBounds_toArray, List.set_cons_zero, List.set_cons_succ])
      | (refine Z.SeqT.call (g := ?_) (args := ?_) (.tuple #[(t 3).v, .agg #[.int .i64 0, .int .u64 0], .int .i64 0]) (by rfl) (by rfl) (by rfl) (fun W => ?_) (fun D W hD => ?_) ?_; rotate_left 2; (· (go_simp; first | with_reducible rfl | (refine ⟨?_, ?_⟩ <;> with_reducible rfl))); (· (exact (do_go 392 _ wk2 2 1 0 0 W wk4 [] wk_do4 (by decide) (HM2.out.later (HL67.out.trans hD.st.la)) (by decide)).mono fun e W2 ⟨s, h1, h2, h3⟩ => ⟨s, h1, hD.st.o3 hD.new h2 h3⟩)); try simp only [Act.put, List.setIfInBounds_toArray, List.set_cons_zero, List.set_cons_succ])
      | (refine Z.SeqT.make (.pointer (some ⟨(t 8).n, 0, none⟩)) (by rfl) (by rfl) (by rfl) (fun D W hD => ?_) ?_; (· (exact ⟨⟨none, W.heap.size, 0, undef⟩, W.alloc (.cells #[.slice none 0 0, .slice none 0 0, .slice none 0 0, .slice none 0 0] 32), by go_simp; first | rfl | exact ⟨rfl, rfl⟩, hD.st.o8 hD.new ((Later.refl W).alloc _) rfl (Box.new _ _ _)⟩)); try simp only [Act.put, List.setIfInBounds_toArray, List.set_cons_zero, List.set_cons_succ])
      | (refine Z.SeqT.make (.pointer (some ⟨(t 9).n, 0, none⟩)) (by rfl) (by rfl) (by rfl) (fun D W hD => ?_) ?_; (· (exact ⟨⟨none, W.heap.size, 0, undef⟩, W.alloc (.cells #[.int .i64 0, .int .u64 0] 43), by go_simp; first | rfl | exact ⟨rfl, rfl⟩, hD.st.o9 ((Later.refl W).alloc _) rfl (Box.new _ _ _)⟩)); try simp only [Act.put, List.setIfInBounds_toArray, List.set_cons_zero, List.set_cons_succ])
      | (refine Z.SeqT.store (by rfl) (by rfl) (fun _ => by rfl) (fun D W hD => ?_) ?_; (· ((have h3 := hD.got 3 ⟨{ on := 3, ground := Ground.chain }, by simp, rfl, rfl⟩; have h8 := hD.got 8 ⟨{ on := 8, ground := Ground.data }, by simp, rfl, rfl⟩; obtain ⟨A0', n0', c0', A1', n1', c1', A2', n2', c2', A3', n3', c3', ev⟩ := DoRes.val (hD.st.d3 h3).res; obtain ⟨-, z0, z1, z2, z3, hb, -⟩ := hD.st.d8 h8; have q0 := hb.cell (i := 0) rfl; have q1 := hb.cell (i := 1) rfl; have q2 := hb.cell (i := 2) rfl; have q3 := hb.cell (i := 3) rfl; have qf := hb.frozen; have hJ := hD.st.o10 (s := default) h8 h3 ev; exact ⟨_, by rw [ev]; go_simp, hJ⟩))); try simp only [Act.put, List.setIfInBounds_toArray, List.set_cons_zero, List.set_cons_succ])
      | (refine Z.SeqT.store (by rfl) (by rfl) (fun _ => by rfl) (fun D W hD => ?_) ?_; (· ((have h9 := hD.got 9 ⟨{ on := 9, ground := Ground.data }, by simp, rfl, rfl⟩; obtain ⟨-, z0, z1, hb⟩ := hD.st.d9 h9; have q0 := hb.cell (i := 0) rfl; have q1 := hb.cell (i := 1) rfl; have qf := hb.frozen; have hJ := hD.st.o11 (s := default) h9 (.int .i64 0) (.int .u64 0); exact ⟨_, by go_simp, hJ⟩))); try simp only [Act.put, List.setIfInBounds_toArray, List.set_cons_zero, List.set_cons_succ])
      )
    exact Z.SeqT.nil _
  intro t w8 hJ
  refine wpList_is (l' := [_]) rfl ?_
  obtain ⟨Ag0, ng0, cg0, Ag1, ng1, cg1, Ag2, ng2, cg2, Ag3, ng3, cg3, ev, hR⟩ := (hJ.d3 (by decide)).res
  obtain ⟨-, z0, z1, z2, z3, hb, hz⟩ := hJ.d8 (by decide)
  have hz := hz (by decide)
  have hl78 := hJ.la
  generalize (t 3).v = vt at *
  generalize (t 8).n = b13 at *
  subst hz
  cases ev
  have hm4' : RMon 521 w8 (.agg #[.slice Ag0 ng0 cg0, .slice Ag1 ng1 cg1, .slice Ag2 ng2 cg2, .slice Ag3 ng3 cg3]) wk4 := ⟨_, _, _, _, _, _, _, _, _, _, _, _, rfl, hR⟩
  have HM4 := Lib.hid hm4'
  have HL78 := Lib.hid hl78
  have v10 := celw hl78 u10
  have v11 := celw hl78 u11
  have v20 := celw hl78 u20
  have v21 := celw hl78 u21
  have v30 := celw hl78 u30
  have v31 := celw hl78 u31
  have v32 := celw hl78 u32
  have v33 := celw hl78 u33
  have v70 := celw hl78 u70
  have v71 := celw hl78 u71
  have v72 := celw hl78 u72
  have v73 := celw hl78 u73
  have va0 := celw hl78 ua0
  have va1 := celw hl78 ua1
  have va2 := celw hl78 ua2
  have va3 := celw hl78 ua3
  have vd0 := cel (hb.cell (i := 0) rfl)
  have vd1 := cel (hb.cell (i := 1) rfl)
  have vd2 := cel (hb.cell (i := 2) rfl)
  have vd3 := cel (hb.cell (i := 3) rfl)
  clear hJ hR hm4' hb hl78 u10 u11 u20 u21 u30 u31 u32 u33 u70 u71 u72 u73 ua0 ua1 ua2 ua3
  go_wp2
  refine Z.region_j (S := (Later w8)) (J := (J5 w8 NilRes)) (af := ?_) 12 (F5 (0, 0) 4 (2, 1, 0, 0)) j5E (by kernel_rfl) (by kernel_rfl) (by decide) (by kernel_rfl) (fun _ _ _ h => h.la) (fun _ _ _ _ he h => h.je he) (fun _ => ⟨(Later.refl _).drew, fun h => h.elim, fun h => h.elim, fun h => h.elim, fun h => h.elim⟩) ?_ ?_
  rotate_left
  · intro t
    repeat (first
      | (refine Z.SeqT.val (v := ?_) (by rfl) (by rfl) (fun W hW => ?_) ?_; rotate_left; (· (go_simp; try with_reducible rfl)); try simp only [Act.put, List.setIfInBounds_toArray, List.set_cons_zero, List.set_cons_succ])
      | (refine Z.SeqT.skip (by rfl) (by rfl) ?_; try simp only [Act.put, List.setIfInBounds_toArray, List.set_cons_zero, List.set_cons_succ])
      | (refine Z.SeqT.call (g := ?_) (args := ?_) (.agg #[.int .i64 2, .int .i64 1, .int .i64 0, .int .u64 0]) (by rfl) (by rfl) (by rfl) (fun W => ?_) (fun D W hD => ?_) ?_; rotate_left 2; (· (go_simp; first | with_reducible rfl | (refine ⟨?_, ?_⟩ <;> with_reducible rfl))); (· (exact (watch_c 2 1 0 0 W).mono fun e W2 h => ⟨default, h.1, hD.st.else _ (by decide) _ h.2⟩)); try simp only [Act.put, List.setIfInBounds_toArray, List.set_cons_zero, List.set_cons_succ])
      | (refine Z.SeqT.call (g := ?_) (args := ?_) (.tuple #[(t 3).v, .agg #[.int .i64 0, .int .u64 0], .int .i64 4]) (by rfl) (by rfl) (by rfl) (fun W => ?_) (fun D W hD => ?_) ?_; rotate_left 2; (· (go_simp; first | with_reducible rfl | (refine ⟨?_, ?_⟩ <;> with_reducible rfl))); (· (exact (do_er 521 _ wk4 2 1 0 0 W 4 wk_do5 (by decide) (HM4.out.later hD.st.la) (by decide)).mono fun e W2 ⟨s, h1, h2, h3⟩ => ⟨s, h1, hD.st.o3 hD.new h2 h3⟩)); try simp only [Act.put, List.setIfInBounds_toArray, List.set_cons_zero, List.set_cons_succ])
      | (refine Z.SeqT.make (.pointer (some ⟨(t 8).n, 0, none⟩)) (by rfl) (by rfl) (by rfl) (fun D W hD => ?_) ?_; (· (exact ⟨⟨none, W.heap.size, 0, undef⟩, W.alloc (.cells #[.slice none 0 0, .slice none 0 0, .slice none 0 0, .slice none 0 0] 32), by go_simp; first | rfl | exact ⟨rfl, rfl⟩, hD.st.o8 hD.new ((Later.refl W).alloc _) rfl (Box.new _ _ _)⟩)); try simp only [Act.put, List.setIfInBounds_toArray, List.set_cons_zero, List.set_cons_succ])
      | (refine Z.SeqT.make (.pointer (some ⟨(t 9).n, 0, none⟩)) (by rfl) (by rfl) (by rfl) (fun D W hD => ?_) ?_; (· (exact ⟨⟨none, W.heap.size, 0, undef⟩, W.alloc (.cells #[.int .i64 0, .int .u64 0] 43), by go_simp; first | rfl | exact ⟨rfl, rfl⟩, hD.st.o9 ((Later.refl W).alloc _) rfl (Box.new _ _ _)⟩)); try simp only [Act.put, List.setIfInBounds_toArray, List.set_cons_zero, List.set_cons_succ])
      | (refine Z.SeqT.store (by rfl) (by rfl) (fun _ => by rfl) (fun D W hD => ?_) ?_; (· ((have h3 := hD.got 3 ⟨{ on := 3, ground := Ground.chain }, by simp, rfl, rfl⟩; have h8 := hD.got 8 ⟨{ on := 8, ground := Ground.data }, by simp, rfl, rfl⟩; obtain ⟨A0', n0', c0', A1', n1', c1', A2', n2', c2', A3', n3', c3', ev⟩ := NilRes.val (hD.st.d3 h3).res; obtain ⟨-, z0, z1, z2, z3, hb, -⟩ := hD.st.d8 h8; have q0 := hb.cell (i := 0) rfl; have q1 := hb.cell (i := 1) rfl; have q2 := hb.cell (i := 2) rfl; have q3 := hb.cell (i := 3) rfl; have qf := hb.frozen; have hJ := hD.st.o10 (s := default) h8 h3 ev; exact ⟨_, by rw [ev]; go_simp, hJ⟩))); try simp only [Act.put, List.setIfInBounds_toArray, List.set_cons_zero, List.set_cons_succ])
      | (refine Z.SeqT.store (by rfl) (by rfl) (fun _ => by rfl) (fun D W hD => ?_) ?_; (· ((have h9 := hD.got 9 ⟨{ on := 9, ground := Ground.data }, by simp, rfl, rfl⟩; obtain ⟨-, z0, z1, hb⟩ := hD.st.d9 h9; have q0 := hb.cell (i := 0) rfl; have q1 := hb.cell (i := 1) rfl; have qf := hb.frozen; have hJ := hD.st.o11 (s := default) h9 (.int .i64 0) (.int .u64 0); exact ⟨_, by go_simp, hJ⟩))); try simp only [Act.put, List.setIfInBounds_toArray, List.set_cons_zero, List.set_cons_succ])
      )
    exact Z.SeqT.nil _
  intro t w9 hJ
  refine wpList_is (l' := [_]) rfl ?_
  have hl9 := hJ.la
  have hn3 : n3 = 1 := by obtain ⟨A0', n0', c0', A1', n1', c1', A2', n2', c2', A3', n3', c3', e, -, -, -, h4, -⟩ := HM2.out; cases e; exact h4.1.symm
  subst hn3
  have HL9 := Lib.hid hl9
  have r10 := celw hl9 v10
  have r11 := celw hl9 v11
  have r30 := celw hl9 v30
  have r31 := celw hl9 v31
  have r32 := celw hl9 v32
  have r33 := celw hl9 v33
  have r73 := celw hl9 v73
  have ra0 := celw hl9 va0
  have ra1 := celw hl9 va1
  have ra2 := celw hl9 va2
  have ra3 := celw hl9 va3
  clear hJ hl9 v10 v11 v20 v21 v30 v31 v32 v33 v70 v71 v72 v73 va0 vd0 va1 vd1 va2 vd2 va3 vd3
  have hL59 : Later w5 w9 := HL56.out.trans (HL67.out.trans (HL78.out.trans HL9.out))
  have hL69 : Later w6 w9 := HL67.out.trans (HL78.out.trans HL9.out)
  have hL79 : Later w7 w9 := HL78.out.trans HL9.out
  have g1 : Hid (∀ W, Later w9 W → ∀ b, Box W b (flat encE [(0, 0)]).toArray 43 → Calls Try.prog 30 #[.slice At 1 ct, .slice (some ⟨b, 0, none⟩) 1 1] W fun r w' => r = .returned (.bool true) ∧ Later W w') := fun W hW b hb => equalE_c At 1 ct [(0, 0)] (some ⟨b, 0, none⟩) 1 1 [(0, 0)] W (by decide) (HT1.out.1.later (hL59.trans hW)) (hb.rd enc_E)
  have g2 : Hid (∀ W, Later w9 W → ∀ b, Box W b (flat encE [(0, 1)]).toArray 43 → Calls Try.prog 30 #[.slice Au 1 cu, .slice (some ⟨b, 0, none⟩) 1 1] W fun r w' => r = .returned (.bool true) ∧ Later W w') := fun W hW b hb => equalE_c Au 1 cu [(0, 1)] (some ⟨b, 0, none⟩) 1 1 [(0, 1)] W (by decide) (HT2.out.1.later (hL69.trans hW)) (hb.rd enc_E)
  have g3 : Hid (∀ W, Later w9 W → Calls Try.prog 19 #[.agg #[.slice A4 n4 c4, .slice A5 n5 c5, .slice A6 n6 c6, .slice A7 n7 c7], .agg #[.int .i64 0, .int .u64 0]] W fun r w' => ∃ A c, r = .returned (.slice A 2 c) ∧ Rd 1 encI w' A 2 [0, 1] ∧ Later W w') := fun W hW => (mholders_c 260 _ wk1 0 0 W (by decide) (HM1.out.later (hL59.trans hW))).mono fun r w' ⟨v, h1, h2, h3⟩ => by
    rw [wk_hold] at h3
    obtain ⟨A, c, e, h4⟩ := ownI_rd h3
    exact ⟨A, c, by rw [h1, e]; rfl, h4, h2⟩
  have g4 : Hid (∀ W, Later w9 W → ∀ (A : Option Addr) (c b : Nat), Rd 1 encI W A 2 [0, 1] → Box W b (flat encI [0, 1]).toArray 3 → Calls Try.prog 27 #[.slice A 2 c, .slice (some ⟨b, 0, none⟩) 2 2] W fun r w' => r = .returned (.bool true) ∧ Later W w') := fun W hW A c b h1 hb => equalI_c A 2 c [0, 1] (some ⟨b, 0, none⟩) 2 2 [0, 1] W (by decide) h1 (hb.rd enc_I)
  have g5 : Hid (∀ W, Later w9 W → Calls Try.prog 13 #[.agg #[.slice A4 n4 c4, .slice A5 n5 c5, .slice A6 n6 c6, .slice A7 n7 c7], .agg #[.int .i64 0, .int .u64 0]] W fun r w' => r = .returned (.bool false) ∧ Later W w') := fun W hW => by
    have := msafe_c 260 _ wk1 0 0 W (by decide) (HM1.out.later (hL59.trans hW))
    rwa [wk_safe] at this
  have g6 : Hid (∀ W, Later w9 W → Calls Try.prog 16 #[.agg #[.slice A4 n4 c4, .slice A5 n5 c5, .slice A6 n6 c6, .slice A7 n7 c7], .agg #[.int .i64 4, .int .i64 1, .int .i64 0, .int .u64 0]] W fun r w' => r = .returned (.bool true) ∧ Later W w') := fun W hW => by
    have := mgoodX_c 260 _ wk1 4 1 0 0 W (by decide) (HM1.out.later (hL59.trans hW))
    rwa [wk_g1] at this
  have g7 : Hid (∀ W, Later w9 W → Calls Try.prog 16 #[.agg #[.slice Ae0 ne0 ce0, .slice Ae1 ne1 ce1, .slice Ae2 ne2 ce2, .slice Ae3 ne3 ce3], .agg #[.int .i64 5, .int .i64 1, .int .i64 0, .int .u64 0]] W fun r w' => r = .returned (.bool false) ∧ Later W w') := fun W hW => by
    have := mgoodX_c 389 _ wk3 5 1 0 0 W (by decide) (HM3.out.later (hL79.trans hW))
    rwa [wk_g2] at this
  have g8 : Hid (∀ W, Later w9 W → Calls Try.prog 16 #[.agg #[.slice Ae0 ne0 ce0, .slice Ae1 ne1 ce1, .slice Ae2 ne2 ce2, .slice Ae3 ne3 ce3], .agg #[.int .i64 4, .int .i64 1, .int .i64 0, .int .u64 0]] W fun r w' => r = .returned (.bool true) ∧ Later W w') := fun W hW => by
    have := mgoodX_c 389 _ wk3 4 1 0 0 W (by decide) (HM3.out.later (hL79.trans hW))
    rwa [wk_g3] at this
  have HLw9 : Hid (Later w w9) := HLw.out.trans hL59
  clear hL59 hL69 hL79
  go_wp2
  refine region_ghost (S := Later w9) (af := ?_) 72 F8 w8V w8E gU0 (by kernel_rfl) (by kernel_rfl) (by kernel_rfl) (by decide) (by kernel_rfl) (fun _ h => h.drew) (Later.refl _) (fun _ _ h h2 => h.trans h2) w8VL w8Loc ?_ ?_
  rotate_left
  · intro t
    (refine SeqT.val (v := ?_) (by rfl) (by rfl) (fun W hW => ?_) ?_; rotate_left; (· (go_simp; try with_reducible rfl)); try simp only [Act.put, List.setIfInBounds_toArray, List.set_cons_zero, List.set_cons_succ])
    (refine SeqT.val (v := ?_) (by rfl) (by rfl) (fun W hW => ?_) ?_; rotate_left; (· (go_simp; try with_reducible rfl)); try simp only [Act.put, List.setIfInBounds_toArray, List.set_cons_zero, List.set_cons_succ])
    (refine SeqT.val (v := ?_) (by rfl) (by rfl) (fun W hW => ?_) ?_; rotate_left; (· (go_simp; try with_reducible rfl)); try simp only [Act.put, List.setIfInBounds_toArray, List.set_cons_zero, List.set_cons_succ])
    (refine SeqT.val (v := ?_) (by rfl) (by rfl) (fun W hW => ?_) ?_; rotate_left; (· (go_simp; try with_reducible rfl)); try simp only [Act.put, List.setIfInBounds_toArray, List.set_cons_zero, List.set_cons_succ])
    (refine SeqT.val (v := ?_) (by rfl) (by rfl) (fun W hW => ?_) ?_; rotate_left; (· (go_simp; try with_reducible rfl)); try simp only [Act.put, List.setIfInBounds_toArray, List.set_cons_zero, List.set_cons_succ])
    (refine SeqT.val (v := ?_) (by rfl) (by rfl) (fun W hW => ?_) ?_; rotate_left; (· (go_simp; try with_reducible rfl)); try simp only [Act.put, List.setIfInBounds_toArray, List.set_cons_zero, List.set_cons_succ])
    (refine SeqT.val (v := ?_) (by rfl) (by rfl) (fun W hW => ?_) ?_; rotate_left; (· (go_simp; try with_reducible rfl)); try simp only [Act.put, List.setIfInBounds_toArray, List.set_cons_zero, List.set_cons_succ])
    (refine SeqT.val (v := ?_) (by rfl) (by rfl) (fun W hW => ?_) ?_; rotate_left; (· (go_simp; try with_reducible rfl)); try simp only [Act.put, List.setIfInBounds_toArray, List.set_cons_zero, List.set_cons_succ])
    (refine SeqT.val (v := ?_) (by rfl) (by rfl) (fun W hW => ?_) ?_; rotate_left; (· (go_simp; try with_reducible rfl)); try simp only [Act.put, List.setIfInBounds_toArray, List.set_cons_zero, List.set_cons_succ])
    (refine SeqT.val (v := ?_) (by rfl) (by rfl) (fun W hW => ?_) ?_; rotate_left; (· (go_simp; try with_reducible rfl)); try simp only [Act.put, List.setIfInBounds_toArray, List.set_cons_zero, List.set_cons_succ])
    (refine SeqT.val (v := ?_) (by rfl) (by rfl) (fun W hW => ?_) ?_; rotate_left; (· (go_simp; try with_reducible rfl)); try simp only [Act.put, List.setIfInBounds_toArray, List.set_cons_zero, List.set_cons_succ])
    (refine SeqT.val (v := ?_) (by rfl) (by rfl) (fun W hW => ?_) ?_; rotate_left; (· (go_simp; try with_reducible rfl)); try simp only [Act.put, List.setIfInBounds_toArray, List.set_cons_zero, List.set_cons_succ])
    (refine SeqT.val (v := ?_) (by rfl) (by rfl) (fun W hW => ?_) ?_; rotate_left; (· (go_simp; try with_reducible rfl)); try simp only [Act.put, List.setIfInBounds_toArray, List.set_cons_zero, List.set_cons_succ])
    (refine SeqT.val (v := ?_) (by rfl) (by rfl) (fun W hW => ?_) ?_; rotate_left; (· (go_simp; try with_reducible rfl)); try simp only [Act.put, List.setIfInBounds_toArray, List.set_cons_zero, List.set_cons_succ])
    (refine SeqT.val (v := ?_) (by rfl) (by rfl) (fun W hW => ?_) ?_; rotate_left; (· (go_simp; try with_reducible rfl)); try simp only [Act.put, List.setIfInBounds_toArray, List.set_cons_zero, List.set_cons_succ])
    (refine SeqT.val (v := ?_) (by rfl) (by rfl) (fun W hW => ?_) ?_; rotate_left; (· (go_simp; try with_reducible rfl)); try simp only [Act.put, List.setIfInBounds_toArray, List.set_cons_zero, List.set_cons_succ])
    (refine SeqT.val (v := ?_) (by rfl) (by rfl) (fun W hW => ?_) ?_; rotate_left; (· (go_simp; try with_reducible rfl)); try simp only [Act.put, List.setIfInBounds_toArray, List.set_cons_zero, List.set_cons_succ])
    (refine SeqT.val (v := ?_) (by rfl) (by rfl) (fun W hW => ?_) ?_; rotate_left; (· (go_simp; try with_reducible rfl)); try simp only [Act.put, List.setIfInBounds_toArray, List.set_cons_zero, List.set_cons_succ])
    (refine SeqT.val (v := ?_) (by rfl) (by rfl) (fun W hW => ?_) ?_; rotate_left; (· (go_simp; try with_reducible rfl)); try simp only [Act.put, List.setIfInBounds_toArray, List.set_cons_zero, List.set_cons_succ])
    (refine SeqT.val (v := ?_) (by rfl) (by rfl) (fun W hW => ?_) ?_; rotate_left; (· (go_simp; try with_reducible rfl)); try simp only [Act.put, List.setIfInBounds_toArray, List.set_cons_zero, List.set_cons_succ])
    (refine SeqT.val (v := ?_) (by rfl) (by rfl) (fun W hW => ?_) ?_; rotate_left; (· (go_simp; try with_reducible rfl)); try simp only [Act.put, List.setIfInBounds_toArray, List.set_cons_zero, List.set_cons_succ])
    (refine SeqT.val (v := ?_) (by rfl) (by rfl) (fun W hW => ?_) ?_; rotate_left; (· (go_simp; try with_reducible rfl)); try simp only [Act.put, List.setIfInBounds_toArray, List.set_cons_zero, List.set_cons_succ])
    (refine SeqT.val (v := ?_) (by rfl) (by rfl) (fun W hW => ?_) ?_; rotate_left; (· (go_simp; try with_reducible rfl)); try simp only [Act.put, List.setIfInBounds_toArray, List.set_cons_zero, List.set_cons_succ])
    (refine SeqT.val (v := ?_) (by rfl) (by rfl) (fun W hW => ?_) ?_; rotate_left; (· (go_simp; try with_reducible rfl)); try simp only [Act.put, List.setIfInBounds_toArray, List.set_cons_zero, List.set_cons_succ])
    (refine SeqT.val (v := ?_) (by rfl) (by rfl) (fun W hW => ?_) ?_; rotate_left; (· (go_simp; try with_reducible rfl)); try simp only [Act.put, List.setIfInBounds_toArray, List.set_cons_zero, List.set_cons_succ])
    (refine SeqT.make (.slice (some ⟨(t 25).n, 0, none⟩) 1 1) (by rfl) (by rfl) (by rfl) (fun W hW hd => ?_) ?_; (· (exact ⟨⟨none, W.heap.size, 0, undef⟩, W.alloc (.cells (flat encE [(0, 0)]).toArray 43), by go_simp; first | rfl | exact ⟨rfl, rfl⟩, Box.new _ _ _, (Later.refl W).alloc _⟩)); try simp only [Act.put, List.setIfInBounds_toArray, List.set_cons_zero, List.set_cons_succ])
    (refine SeqT.call (g := ?_) (args := ?_) (.bool true) (by rfl) (by rfl) (by rfl) (fun W hW => ?_) (fun W hW hd => ?_) ?_; rotate_left 2; (· (go_simp; first | with_reducible rfl | (refine ⟨?_, ?_⟩ <;> with_reducible rfl))); (· (exact (g1.out W hW _ (hd 25 rfl ⟨{ on := 25, ground := Ground.data }, by simp, rfl, rfl⟩)).mono fun _ _ h => ⟨default, h.1, trivial, h.2⟩)); try simp only [Act.put, List.setIfInBounds_toArray, List.set_cons_zero, List.set_cons_succ])
    (refine SeqT.val (v := ?_) (by rfl) (by rfl) (fun W hW => ?_) ?_; rotate_left; (· (go_simp; try with_reducible rfl)); try simp only [Act.put, List.setIfInBounds_toArray, List.set_cons_zero, List.set_cons_succ])
    (refine SeqT.val (v := ?_) (by rfl) (by rfl) (fun W hW => ?_) ?_; rotate_left; (· (go_simp; try with_reducible rfl)); try simp only [Act.put, List.setIfInBounds_toArray, List.set_cons_zero, List.set_cons_succ])
    (refine SeqT.val (v := ?_) (by rfl) (by rfl) (fun W hW => ?_) ?_; rotate_left; (· (go_simp; try with_reducible rfl)); try simp only [Act.put, List.setIfInBounds_toArray, List.set_cons_zero, List.set_cons_succ])
    (refine SeqT.val (v := ?_) (by rfl) (by rfl) (fun W hW => ?_) ?_; rotate_left; (· (go_simp; try with_reducible rfl)); try simp only [Act.put, List.setIfInBounds_toArray, List.set_cons_zero, List.set_cons_succ])
    (refine SeqT.make (.slice (some ⟨(t 31).n, 0, none⟩) 1 1) (by rfl) (by rfl) (by rfl) (fun W hW hd => ?_) ?_; (· (exact ⟨⟨none, W.heap.size, 0, undef⟩, W.alloc (.cells (flat encE [(0, 1)]).toArray 43), by go_simp; first | rfl | exact ⟨rfl, rfl⟩, Box.new _ _ _, (Later.refl W).alloc _⟩)); try simp only [Act.put, List.setIfInBounds_toArray, List.set_cons_zero, List.set_cons_succ])
    (refine SeqT.call (g := ?_) (args := ?_) (.bool true) (by rfl) (by rfl) (by rfl) (fun W hW => ?_) (fun W hW hd => ?_) ?_; rotate_left 2; (· (go_simp; first | with_reducible rfl | (refine ⟨?_, ?_⟩ <;> with_reducible rfl))); (· (exact (g2.out W hW _ (hd 31 rfl ⟨{ on := 31, ground := Ground.data }, by simp, rfl, rfl⟩)).mono fun _ _ h => ⟨default, h.1, trivial, h.2⟩)); try simp only [Act.put, List.setIfInBounds_toArray, List.set_cons_zero, List.set_cons_succ])
    (refine SeqT.val (v := ?_) (by rfl) (by rfl) (fun W hW => ?_) ?_; rotate_left; (· (go_simp; try with_reducible rfl)); try simp only [Act.put, List.setIfInBounds_toArray, List.set_cons_zero, List.set_cons_succ])
    (refine SeqT.val (v := ?_) (by rfl) (by rfl) (fun W hW => ?_) ?_; rotate_left; (· (go_simp; try with_reducible rfl)); try simp only [Act.put, List.setIfInBounds_toArray, List.set_cons_zero, List.set_cons_succ])
    (refine SeqT.val (v := ?_) (by rfl) (by rfl) (fun W hW => ?_) ?_; rotate_left; (· (go_simp; try with_reducible rfl)); try simp only [Act.put, List.setIfInBounds_toArray, List.set_cons_zero, List.set_cons_succ])
    (refine SeqT.val (v := ?_) (by rfl) (by rfl) (fun W hW => ?_) ?_; rotate_left; (· (go_simp; try with_reducible rfl)); try simp only [Act.put, List.setIfInBounds_toArray, List.set_cons_zero, List.set_cons_succ])
    (refine SeqT.call (g := ?_) (args := ?_) (.slice (t 37).A 2 (t 37).c) (by rfl) (by rfl) (by rfl) (fun W hW => ?_) (fun W hW hd => ?_) ?_; rotate_left 2; (· (go_simp; first | with_reducible rfl | (refine ⟨?_, ?_⟩ <;> with_reducible rfl))); (· (exact (g3.out W hW).mono fun _ _ ⟨A, c, h1, h2, h3⟩ => ⟨⟨A, 0, c, undef⟩, h1, h2, h3⟩)); try simp only [Act.put, List.setIfInBounds_toArray, List.set_cons_zero, List.set_cons_succ])
    (refine SeqT.make (.slice (some ⟨(t 38).n, 0, none⟩) 2 2) (by rfl) (by rfl) (by rfl) (fun W hW hd => ?_) ?_; (· (exact ⟨⟨none, W.heap.size, 0, undef⟩, W.alloc (.cells (flat encI [0, 1]).toArray 3), by go_simp; first | rfl | exact ⟨rfl, rfl⟩, Box.new _ _ _, (Later.refl W).alloc _⟩)); try simp only [Act.put, List.setIfInBounds_toArray, List.set_cons_zero, List.set_cons_succ])
    (refine SeqT.call (g := ?_) (args := ?_) (.bool true) (by rfl) (by rfl) (by rfl) (fun W hW => ?_) (fun W hW hd => ?_) ?_; rotate_left 2; (· (go_simp; first | with_reducible rfl | (refine ⟨?_, ?_⟩ <;> with_reducible rfl))); (· (exact (g4.out W hW _ _ _ (hd 37 rfl ⟨{ on := 37, ground := Ground.data }, by simp, rfl, rfl⟩) (hd 38 rfl ⟨{ on := 38, ground := Ground.data }, by simp, rfl, rfl⟩)).mono fun _ _ h => ⟨default, h.1, trivial, h.2⟩)); try simp only [Act.put, List.setIfInBounds_toArray, List.set_cons_zero, List.set_cons_succ])
    (refine SeqT.val (v := ?_) (by rfl) (by rfl) (fun W hW => ?_) ?_; rotate_left; (· (go_simp; try with_reducible rfl)); try simp only [Act.put, List.setIfInBounds_toArray, List.set_cons_zero, List.set_cons_succ])
    (refine SeqT.val (v := ?_) (by rfl) (by rfl) (fun W hW => ?_) ?_; rotate_left; (· (go_simp; try with_reducible rfl)); try simp only [Act.put, List.setIfInBounds_toArray, List.set_cons_zero, List.set_cons_succ])
    (refine SeqT.val (v := ?_) (by rfl) (by rfl) (fun W hW => ?_) ?_; rotate_left; (· (go_simp; try with_reducible rfl)); try simp only [Act.put, List.setIfInBounds_toArray, List.set_cons_zero, List.set_cons_succ])
    (refine SeqT.val (v := ?_) (by rfl) (by rfl) (fun W hW => ?_) ?_; rotate_left; (· (go_simp; try with_reducible rfl)); try simp only [Act.put, List.setIfInBounds_toArray, List.set_cons_zero, List.set_cons_succ])
    (refine SeqT.call (g := ?_) (args := ?_) (.bool false) (by rfl) (by rfl) (by rfl) (fun W hW => ?_) (fun W hW hd => ?_) ?_; rotate_left 2; (· (go_simp; first | with_reducible rfl | (refine ⟨?_, ?_⟩ <;> with_reducible rfl))); (· (exact (g5.out W hW).mono fun _ _ h => ⟨default, h.1, trivial, h.2⟩)); try simp only [Act.put, List.setIfInBounds_toArray, List.set_cons_zero, List.set_cons_succ])
    (refine SeqT.val (v := ?_) (by rfl) (by rfl) (fun W hW => ?_) ?_; rotate_left; (· (go_simp; try with_reducible rfl)); try simp only [Act.put, List.setIfInBounds_toArray, List.set_cons_zero, List.set_cons_succ])
    (refine SeqT.val (v := ?_) (by rfl) (by rfl) (fun W hW => ?_) ?_; rotate_left; (· (go_simp; try with_reducible rfl)); try simp only [Act.put, List.setIfInBounds_toArray, List.set_cons_zero, List.set_cons_succ])
    (refine SeqT.val (v := ?_) (by rfl) (by rfl) (fun W hW => ?_) ?_; rotate_left; (· (go_simp; try with_reducible rfl)); try simp only [Act.put, List.setIfInBounds_toArray, List.set_cons_zero, List.set_cons_succ])
    (refine SeqT.val (v := ?_) (by rfl) (by rfl) (fun W hW => ?_) ?_; rotate_left; (· (go_simp; try with_reducible rfl)); try simp only [Act.put, List.setIfInBounds_toArray, List.set_cons_zero, List.set_cons_succ])
    (refine SeqT.val (v := ?_) (by rfl) (by rfl) (fun W hW => ?_) ?_; rotate_left; (· (go_simp; try with_reducible rfl)); try simp only [Act.put, List.setIfInBounds_toArray, List.set_cons_zero, List.set_cons_succ])
    (refine SeqT.call (g := ?_) (args := ?_) (.agg #[.int .i64 4, .int .i64 1, .int .i64 0, .int .u64 0]) (by rfl) (by rfl) (by rfl) (fun W hW => ?_) (fun W hW hd => ?_) ?_; rotate_left 2; (· (go_simp; first | with_reducible rfl | (refine ⟨?_, ?_⟩ <;> with_reducible rfl))); (· (exact (watch_c 4 1 0 0 W).mono fun _ _ h => ⟨default, h.1, trivial, h.2⟩)); try simp only [Act.put, List.setIfInBounds_toArray, List.set_cons_zero, List.set_cons_succ])
    (refine SeqT.call (g := ?_) (args := ?_) (.bool true) (by rfl) (by rfl) (by rfl) (fun W hW => ?_) (fun W hW hd => ?_) ?_; rotate_left 2; (· (go_simp; first | with_reducible rfl | (refine ⟨?_, ?_⟩ <;> with_reducible rfl))); (· (exact (g6.out W hW).mono fun _ _ h => ⟨default, h.1, trivial, h.2⟩)); try simp only [Act.put, List.setIfInBounds_toArray, List.set_cons_zero, List.set_cons_succ])
    (refine SeqT.val (v := ?_) (by rfl) (by rfl) (fun W hW => ?_) ?_; rotate_left; (· (go_simp; try with_reducible rfl)); try simp only [Act.put, List.setIfInBounds_toArray, List.set_cons_zero, List.set_cons_succ])
    (refine SeqT.val (v := ?_) (by rfl) (by rfl) (fun W hW => ?_) ?_; rotate_left; (· (go_simp; try with_reducible rfl)); try simp only [Act.put, List.setIfInBounds_toArray, List.set_cons_zero, List.set_cons_succ])
    (refine SeqT.val (v := ?_) (by rfl) (by rfl) (fun W hW => ?_) ?_; rotate_left; (· (go_simp; try with_reducible rfl)); try simp only [Act.put, List.setIfInBounds_toArray, List.set_cons_zero, List.set_cons_succ])
    (refine SeqT.val (v := ?_) (by rfl) (by rfl) (fun W hW => ?_) ?_; rotate_left; (· (go_simp; try with_reducible rfl)); try simp only [Act.put, List.setIfInBounds_toArray, List.set_cons_zero, List.set_cons_succ])
    (refine SeqT.call (g := ?_) (args := ?_) (.agg #[.int .i64 5, .int .i64 1, .int .i64 0, .int .u64 0]) (by rfl) (by rfl) (by rfl) (fun W hW => ?_) (fun W hW hd => ?_) ?_; rotate_left 2; (· (go_simp; first | with_reducible rfl | (refine ⟨?_, ?_⟩ <;> with_reducible rfl))); (· (exact (watch_c 5 1 0 0 W).mono fun _ _ h => ⟨default, h.1, trivial, h.2⟩)); try simp only [Act.put, List.setIfInBounds_toArray, List.set_cons_zero, List.set_cons_succ])
    (refine SeqT.call (g := ?_) (args := ?_) (.bool false) (by rfl) (by rfl) (by rfl) (fun W hW => ?_) (fun W hW hd => ?_) ?_; rotate_left 2; (· (go_simp; first | with_reducible rfl | (refine ⟨?_, ?_⟩ <;> with_reducible rfl))); (· (exact (g7.out W hW).mono fun _ _ h => ⟨default, h.1, trivial, h.2⟩)); try simp only [Act.put, List.setIfInBounds_toArray, List.set_cons_zero, List.set_cons_succ])
    (refine SeqT.val (v := ?_) (by rfl) (by rfl) (fun W hW => ?_) ?_; rotate_left; (· (go_simp; try with_reducible rfl)); try simp only [Act.put, List.setIfInBounds_toArray, List.set_cons_zero, List.set_cons_succ])
    (refine SeqT.val (v := ?_) (by rfl) (by rfl) (fun W hW => ?_) ?_; rotate_left; (· (go_simp; try with_reducible rfl)); try simp only [Act.put, List.setIfInBounds_toArray, List.set_cons_zero, List.set_cons_succ])
    (refine SeqT.val (v := ?_) (by rfl) (by rfl) (fun W hW => ?_) ?_; rotate_left; (· (go_simp; try with_reducible rfl)); try simp only [Act.put, List.setIfInBounds_toArray, List.set_cons_zero, List.set_cons_succ])
    (refine SeqT.val (v := ?_) (by rfl) (by rfl) (fun W hW => ?_) ?_; rotate_left; (· (go_simp; try with_reducible rfl)); try simp only [Act.put, List.setIfInBounds_toArray, List.set_cons_zero, List.set_cons_succ])
    (refine SeqT.val (v := ?_) (by rfl) (by rfl) (fun W hW => ?_) ?_; rotate_left; (· (go_simp; try with_reducible rfl)); try simp only [Act.put, List.setIfInBounds_toArray, List.set_cons_zero, List.set_cons_succ])
    (refine SeqT.call (g := ?_) (args := ?_) (.agg #[.int .i64 4, .int .i64 1, .int .i64 0, .int .u64 0]) (by rfl) (by rfl) (by rfl) (fun W hW => ?_) (fun W hW hd => ?_) ?_; rotate_left 2; (· (go_simp; first | with_reducible rfl | (refine ⟨?_, ?_⟩ <;> with_reducible rfl))); (· (exact (watch_c 4 1 0 0 W).mono fun _ _ h => ⟨default, h.1, trivial, h.2⟩)); try simp only [Act.put, List.setIfInBounds_toArray, List.set_cons_zero, List.set_cons_succ])
    (refine SeqT.call (g := ?_) (args := ?_) (.bool true) (by rfl) (by rfl) (by rfl) (fun W hW => ?_) (fun W hW hd => ?_) ?_; rotate_left 2; (· (go_simp; first | with_reducible rfl | (refine ⟨?_, ?_⟩ <;> with_reducible rfl))); (· (exact (g8.out W hW).mono fun _ _ h => ⟨default, h.1, trivial, h.2⟩)); try simp only [Act.put, List.setIfInBounds_toArray, List.set_cons_zero, List.set_cons_succ])
    (refine SeqT.val (v := ?_) (by rfl) (by rfl) (fun W hW => ?_) ?_; rotate_left; (· (go_simp; try with_reducible rfl)); try simp only [Act.put, List.setIfInBounds_toArray, List.set_cons_zero, List.set_cons_succ])
    (refine SeqT.val (v := ?_) (by rfl) (by rfl) (fun W hW => ?_) ?_; rotate_left; (· (go_simp; try with_reducible rfl)); try simp only [Act.put, List.setIfInBounds_toArray, List.set_cons_zero, List.set_cons_succ])
    (refine SeqT.val (v := ?_) (by rfl) (by rfl) (fun W hW => ?_) ?_; rotate_left; (· (go_simp; try with_reducible rfl)); try simp only [Act.put, List.setIfInBounds_toArray, List.set_cons_zero, List.set_cons_succ])
    (refine SeqT.val (v := ?_) (by rfl) (by rfl) (fun W hW => ?_) ?_; rotate_left; (· (go_simp; try with_reducible rfl)); try simp only [Act.put, List.setIfInBounds_toArray, List.set_cons_zero, List.set_cons_succ])
    (refine SeqT.val (v := ?_) (by rfl) (by rfl) (fun W hW => ?_) ?_; rotate_left; (· (go_simp; try with_reducible rfl)); try simp only [Act.put, List.setIfInBounds_toArray, List.set_cons_zero, List.set_cons_succ])
    (refine SeqT.val (v := ?_) (by rfl) (by rfl) (fun W hW => ?_) ?_; rotate_left; (· (go_simp; try with_reducible rfl)); try simp only [Act.put, List.setIfInBounds_toArray, List.set_cons_zero, List.set_cons_succ])
    (refine SeqT.val (v := ?_) (by rfl) (by rfl) (fun W hW => ?_) ?_; rotate_left; (· (go_simp; try with_reducible rfl)); try simp only [Act.put, List.setIfInBounds_toArray, List.set_cons_zero, List.set_cons_succ])
    exact SeqT.nil _
  intro t W hW hV
  refine wpList_is (l' := [_]) rfl ?_
  clear hV
  go_wp2
  go_ret
  exact ⟨rfl, HLw9.out.trans hW⟩
end Go.Proofs.Ytdheckfndldbmaa
