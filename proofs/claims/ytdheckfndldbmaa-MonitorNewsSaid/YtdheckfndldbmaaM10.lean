/- A watcher: what lies in memory, and what becomes of it. | The watcher's methods: pinned, pin, unpin. | The watcher's methods: unpin, get. | The watcher's methods: get. | The watcher's methods: touch; one element more, anywhere. -/
import Derived.Test.YtdheckfndldbmaaM09
namespace Go.Proofs.Ytdheckfndldbmaa
open Go.RowKit

/-- where a watcher's parts lie -/
structure WX where
  D : Nat
  n : Nat
  P : Nat
  g : Nat
  H : Nat
  hc : Nat
  vals : List Value
  bv : Value
  tv : Value

structure WSt (W : World) (b : Nat) (x : WX) (m : MonD) (tk : List E2) : Prop where
  bx : Box W b #[.slice (some ⟨x.D, 0, none⟩) x.n x.n, .slice (some ⟨x.P, 0, none⟩) x.g x.g, .slice (some ⟨x.H, 0, none⟩) x.g x.hc, x.bv, x.tv] 85
  sl : Box W x.D (flat encE m.slabs).toArray 47
  sn : m.slabs.length = x.n
  pi : Box W x.P (flat encB m.pinned).toArray 4
  pn : m.pinned.length = x.g
  ha : W.ownsRow 0 54 1 (.slice (some ⟨x.H, 0, none⟩) x.g x.hc) x.g x.vals
  hn : m.has.length = x.g
  ro : ∀ j, j < x.g → ∃ A n c, x.vals[j]? = some (.slice A n c) ∧ W.ownsRow 0 43 2 (.slice A n c) n (flat encE (m.has[j]?.getD [])) ∧ (m.has[j]?.getD []).length = n
  ap : ∀ i j : Nat, i ≠ j → ∀ (u v : Value) (k : Nat), x.vals[i]? = some u → x.vals[j]? = some v → u.ownBlock = some k → v.ownBlock ≠ some k
  ba : W.ownsRow 0 45 4 x.bv m.bad.length (flat encW m.bad)
  tu : W.ownsRow 0 43 2 x.tv tk.length (flat encE tk)
  ta : ∀ (j : Nat) (u : Value) (k : Nat), x.vals[j]? = some u → u.ownBlock = some k → x.tv.ownBlock ≠ some k

/-- the blocks that may change -/
def WX.fp (x : WX) (b i : Nat) : Prop := i = b ∨ i = x.P ∨ i = x.H ∨ (∃ (j : Nat) (u : Value), x.vals[j]? = some u ∧ u.ownBlock = some i) ∨ x.bv.ownBlock = some i ∨ x.tv.ownBlock = some i

section
variable {W W' : World} {b : Nat} {x : WX} {m : MonD} {tk : List E2}
theorem WSt.later (h : WSt W b x m tk) (hL : Later W W') : WSt W' b x m tk :=
  ⟨h.bx.later hL, h.sl.later hL, h.sn, h.pi.later hL, h.pn, hL.own h.ha, h.hn, fun j hj => let ⟨A, n, c, h1, h2, h3⟩ := h.ro j hj; ⟨A, n, c, h1, hL.own h2, h3⟩, h.ap, hL.own h.ba, hL.own h.tu, h.ta⟩
theorem WSt.vlen (h : WSt W b x m tk) : x.vals.length = x.g := by have := h.ha.1; omega
theorem WSt.row (h : WSt W b x m tk) {j : Nat} {u : Value} (hj : x.vals[j]? = some u) : ∃ A n c, u = .slice A n c ∧ j < x.g ∧ W.ownsRow 0 43 2 (.slice A n c) n (flat encE (m.has[j]?.getD [])) ∧ (m.has[j]?.getD []).length = n := by
  have hg : j < x.g := by have := (List.getElem?_eq_some_iff.1 hj).1; rw [h.vlen] at this; exact this
  obtain ⟨A, n, c, h1, h2, h3⟩ := h.ro j hg
  rw [hj] at h1; cases h1
  exact ⟨A, n, c, rfl, hg, h2, h3⟩
/-- where a row of entries lies, nothing else does -/
theorem WSt.row_ne (h : WSt W b x m tk) {j : Nat} {u : Value} (hj : x.vals[j]? = some u) {k : Nat} (hk : u.ownBlock = some k) : k ≠ b ∧ k ≠ x.D ∧ k ≠ x.P ∧ k ≠ x.H ∧ x.bv.ownBlock ≠ some k ∧ x.tv.ownBlock ≠ some k := by
  obtain ⟨A, n, c, rfl, -, ho, -⟩ := h.row hj
  refine ⟨fun e => own_ne ho (show W.heap[b]? = _ from h.bx) (by decide) (e ▸ hk), fun e => own_ne ho (show W.heap[x.D]? = _ from h.sl) (by decide) (e ▸ hk), fun e => own_ne ho (show W.heap[x.P]? = _ from h.pi) (by decide) (e ▸ hk), fun e => ?_, own_apart ho h.ba (by decide) k hk, h.ta j _ k hj hk⟩
  exact own_apart ho h.ha (by decide) k hk (by rw [e]; rfl)
theorem WSt.has_ne (h : WSt W b x m tk) : x.H ≠ b ∧ x.H ≠ x.D ∧ x.H ≠ x.P ∧ x.bv.ownBlock ≠ some x.H ∧ x.tv.ownBlock ≠ some x.H :=
  ⟨fun e => own_ne h.ha (show W.heap[b]? = _ from h.bx) (by decide) (e ▸ rfl), fun e => own_ne h.ha (show W.heap[x.D]? = _ from h.sl) (by decide) (e ▸ rfl), fun e => own_ne h.ha (show W.heap[x.P]? = _ from h.pi) (by decide) (e ▸ rfl),
    own_apart h.ha h.ba (by decide) _ rfl, own_apart h.ha h.tu (by decide) _ rfl⟩
theorem WSt.bad_ne (h : WSt W b x m tk) {k : Nat} (hk : x.bv.ownBlock = some k) : k ≠ b ∧ k ≠ x.D ∧ k ≠ x.P ∧ x.tv.ownBlock ≠ some k :=
  ⟨fun e => own_ne h.ba (show W.heap[b]? = _ from h.bx) (by decide) (e ▸ hk), fun e => own_ne h.ba (show W.heap[x.D]? = _ from h.sl) (by decide) (e ▸ hk), fun e => own_ne h.ba (show W.heap[x.P]? = _ from h.pi) (by decide) (e ▸ hk), own_apart h.ba h.tu (by decide) k hk⟩
theorem WSt.took_ne (h : WSt W b x m tk) {k : Nat} (hk : x.tv.ownBlock = some k) : k ≠ b ∧ k ≠ x.D ∧ k ≠ x.P :=
  ⟨fun e => own_ne h.tu (show W.heap[b]? = _ from h.bx) (by decide) (e ▸ hk), fun e => own_ne h.tu (show W.heap[x.D]? = _ from h.sl) (by decide) (e ▸ hk), fun e => own_ne h.tu (show W.heap[x.P]? = _ from h.pi) (by decide) (e ▸ hk)⟩
theorem WSt.box_ne (h : WSt W b x m tk) : b ≠ x.D ∧ b ≠ x.P ∧ x.D ≠ x.P := ⟨h.bx.ne h.sl (by decide), h.bx.ne h.pi (by decide), h.sl.ne h.pi (by decide)⟩

/-! ### a pin -/
theorem set_flatB (xs : List Bool) (i : Nat) (v : Bool) : (flat encB xs).toArray.setIfInBounds i (.bool v) = (flat encB (xs.set i v)).toArray := by
  have : ∀ l : List Bool, flat encB l = l.map Value.bool := fun l => by unfold flat; rw [List.map_eq_flatMap]; rfl
  rw [List.setIfInBounds_toArray, this, this, List.map_set]
theorem WSt.setPin (h : WSt W b x m tk) (i : Nat) (v : Bool) : WSt (W.setCell ⟨x.P, i, none⟩ (.bool v)) b x { m with pinned := m.pinned.set i v } tk := by
  have hC : Chg (fun k => k = x.P) W (W.setCell ⟨x.P, i, none⟩ (.bool v)) := Chg.set (S := fun k => k = x.P) (.refl _ _) rfl _
  have hb := h.box_ne
  refine ⟨h.bx.chg hC hb.2.1, h.sl.chg hC hb.2.2, h.sn, ?_, by simp [h.pn], hC.own h.ha (fun k e => by cases e; exact h.has_ne.2.2.1), h.hn, fun j hj => ?_, h.ap, hC.own h.ba (fun k e => (h.bad_ne e).2.2.1), hC.own h.tu (fun k e => (h.took_ne e).2.2), h.ta⟩
  · have := h.pi.set i (.bool v)
    rwa [set_flatB] at this
  · obtain ⟨A, n, c, h1, h2, h3⟩ := h.ro j hj
    exact ⟨A, n, c, h1, hC.own h2 (fun k e => (h.row_ne h1 e).2.2.1), h3⟩

/-! ### a row of a goroutine's -/
theorem own_set {w : World} {b0 : Nat} {e : TypeId} {g n c : Nat} {xs : List Value} (h : w.ownsRow b0 e 1 (.slice (some ⟨g, 0, none⟩) n c) n xs) (i : Nat) (v : Value) :
    (w.setCell ⟨g, i, none⟩ v).ownsRow b0 e 1 (.slice (some ⟨g, 0, none⟩) n c) n (xs.set i v) := by
  refine ⟨by rw [List.length_set]; exact h.1, ?_⟩
  rcases h.2 with ⟨hn, _⟩ | ⟨g', cap, cur, hs, hb, hh, h1, h2, h3, h4⟩
  · cases hn
  · cases hs
    refine .inr ⟨g, c, cur.setIfInBounds i v, rfl, hb, heap_setCell_same _ _ _ _ _ _ hh, h1, h2, by simp [h3], ?_⟩
    rw [Array.toList_setIfInBounds, List.take_set, h4]
theorem Chg.setHas {w w' : World} {S : Nat → Prop} (h : Chg S w w') {g i : Nat} (hS : S g) (v : Value) : Chg S w (w'.setCell ⟨g, i, none⟩ v) := h.set hS v

/-- goroutine i has this row now: it lies in its own old block, or in a new one -/
theorem WSt.setRow (h : WSt W b x m tk) {w1 : World} {i : Nat} {u v : Value} {r : List E2} (hi : i < x.g) (hu : x.vals[i]? = some u) (hg : W.grownBy w1 u.ownBlock)
    (hv : ∃ A n c, v = .slice A n c ∧ w1.ownsRow 0 43 2 (.slice A n c) n (flat encE r) ∧ r.length = n) (hnew : ∀ k, v.ownBlock = some k → u.ownBlock = some k ∨ W.heap.size ≤ k) :
    WSt (w1.setCell ⟨x.H, i, none⟩ v) b { x with vals := x.vals.set i v } { m with has := m.has.set i r } tk ∧ Chg (fun k => k = x.H ∨ u.ownBlock = some k) W (w1.setCell ⟨x.H, i, none⟩ v) := by
  have hC1 : Chg (fun k => u.ownBlock = some k) W w1 := Chg.of_grown hg fun k e => e
  have hC : Chg (fun k => k = x.H ∨ u.ownBlock = some k) W (w1.setCell ⟨x.H, i, none⟩ v) := Chg.set (S := fun k => k = x.H ∨ u.ownBlock = some k) (hC1.mono fun _ _ e => .inr e) (.inl rfl) _
  have hb := h.has_ne
  have hr := fun k => h.row_ne hu (k := k)
  obtain ⟨A, n, c, rfl, hvo, hvn⟩ := hv
  have hH1 : w1.ownsRow 0 54 1 (.slice (some ⟨x.H, 0, none⟩) x.g x.hc) x.g x.vals := hC1.own h.ha fun k e e' => by cases e; exact (hr _ e').2.2.2.1 rfl
  have hvH : (Value.slice A n c).ownBlock ≠ some x.H := fun e => own_apart hvo hH1 (by decide) _ e rfl
  refine ⟨⟨h.bx.chg hC ?_, h.sl.chg hC ?_, h.sn, h.pi.chg hC ?_, h.pn, own_set hH1 i _, by rw [List.length_set]; exact h.hn, fun j hj => ?_, ?_, hC.own h.ba ?_, hC.own h.tu ?_, ?_⟩, hC⟩
  · rintro (e | e); exact hb.1 e.symm; exact (hr _ e).1 rfl
  · rintro (e | e); exact hb.2.1 e.symm; exact (hr _ e).2.1 rfl
  · rintro (e | e); exact hb.2.2.1 e.symm; exact (hr _ e).2.2.1 rfl
  · by_cases hji : j = i
    · subst hji
      refine ⟨A, n, c, by rw [List.getElem?_set_self (by rw [h.vlen]; exact hj)], ?_, ?_⟩
      · rw [List.getElem?_set_self (by rw [h.hn]; exact hj), Option.getD_some]
        exact ownsRow_setCell_other hvo hvH _
      · rw [List.getElem?_set_self (by rw [h.hn]; exact hj), Option.getD_some]; exact hvn
    · obtain ⟨A', n', c', h1, h2, h3⟩ := h.ro j hj
      dsimp only
      simp only [List.getElem?_set_ne (show i ≠ j from fun e => hji e.symm)]
      refine ⟨A', n', c', h1, hC.own h2 ?_, h3⟩
      rintro k e (e' | e')
      · exact (h.row_ne h1 e).2.2.2.1 e'
      · exact h.ap j i hji _ _ k h1 hu e e'
  · intro j j' hjj u' v' k hu' hv' hk
    dsimp only at hu' hv'
    by_cases hji : j = i
    · subst hji
      rw [List.getElem?_set_self (by rw [h.vlen]; exact hi)] at hu'
      cases hu'
      rw [List.getElem?_set_ne hjj] at hv'
      rcases hnew k hk with e | e
      · exact h.ap j j' hjj _ _ k hu hv' e
      · intro e'
        obtain ⟨A', n', c', rfl, _, ho, _⟩ := h.row hv'
        have := (ho.lt k e').2; omega
    · rw [List.getElem?_set_ne (fun e => hji e.symm)] at hu'
      by_cases hj'i : j' = i
      · subst hj'i
        rw [List.getElem?_set_self (by rw [h.vlen]; exact hi)] at hv'
        cases hv'
        intro e'
        rcases hnew k e' with e | e
        · exact h.ap j j' hji _ _ k hu' hu hk e
        · obtain ⟨A', n', c', rfl, _, ho, _⟩ := h.row hu'
          have := (ho.lt k hk).2; omega
      · rw [List.getElem?_set_ne (fun e => hj'i e.symm)] at hv'
        exact h.ap j j' hjj _ _ k hu' hv' hk
  · rintro k e (e' | e')
    · exact hb.2.2.2.1 (e' ▸ e)
    · exact (hr _ e').2.2.2.2.1 e
  · rintro k e (e' | e')
    · exact hb.2.2.2.2 (e' ▸ e)
    · exact (hr _ e').2.2.2.2.2 e
  · intro j u' k hu' hk e
    dsimp only at hu' e
    by_cases hji : j = i
    · subst hji
      rw [List.getElem?_set_self (by rw [h.vlen]; exact hi)] at hu'
      cases hu'
      rcases hnew k hk with e' | e'
      · exact h.ta j _ k hu e' e
      · have := (h.tu.lt k e).2; omega
    · rw [List.getElem?_set_ne (fun e => hji e.symm)] at hu'
      exact h.ta j _ k hu' hk e

/-! ### the other parts -/
theorem WSt.setArena (h : WSt W b x m tk) {D n : Nat} {ys : List E2} (hD : Box W D (flat encE ys).toArray 47) (hn : ys.length = n) :
    WSt (W.setCell ⟨b, 0, none⟩ (.slice (some ⟨D, 0, none⟩) n n)) b { x with D := D, n := n } { m with slabs := ys } tk := by
  have hC : Chg (fun k => k = b) W (W.setCell ⟨b, 0, none⟩ (.slice (some ⟨D, 0, none⟩) n n)) := Chg.set (S := fun k => k = b) (.refl _ _) rfl _
  refine ⟨by simpa using h.bx.set 0 (.slice (some ⟨D, 0, none⟩) n n), hD.chg hC (hD.ne h.bx (by decide)), hn, h.pi.chg hC h.box_ne.2.1.symm, h.pn, hC.own h.ha (fun k e => by cases e; exact h.has_ne.1), h.hn, fun j hj => ?_, h.ap, hC.own h.ba (fun k e => (h.bad_ne e).1), hC.own h.tu (fun k e => (h.took_ne e).1), h.ta⟩
  obtain ⟨A, n, c, h1, h2, h3⟩ := h.ro j hj
  exact ⟨A, n, c, h1, hC.own h2 (fun k e => (h.row_ne h1 e).1), h3⟩
theorem WSt.setBad (h : WSt W b x m tk) {w1 : World} {v : Value} {r : List W4} (hg : W.grownBy w1 x.bv.ownBlock) (hv : w1.ownsRow 0 45 4 v r.length (flat encW r)) :
    WSt (w1.setCell ⟨b, 3, none⟩ v) b { x with bv := v } { m with bad := r } tk ∧ Chg (fun k => k = b ∨ x.bv.ownBlock = some k) W (w1.setCell ⟨b, 3, none⟩ v) := by
  have hC1 : Chg (fun k => x.bv.ownBlock = some k) W w1 := Chg.of_grown hg fun k e => e
  have hC : Chg (fun k => k = b ∨ x.bv.ownBlock = some k) W (w1.setCell ⟨b, 3, none⟩ v) := Chg.set (S := fun k => k = b ∨ x.bv.ownBlock = some k) (hC1.mono fun _ _ e => .inr e) (.inl rfl) _
  have hbx1 := h.bx.chg hC1 (fun e => (h.bad_ne e).1 rfl)
  refine ⟨⟨by simpa using hbx1.set 3 v, h.sl.chg hC ?_, h.sn, h.pi.chg hC ?_, h.pn, hC.own h.ha ?_, h.hn, fun j hj => ?_, h.ap, ownsRow_setCell_other hv (own_ne hv (show w1.heap[b]? = _ from hbx1) (by decide)) _, hC.own h.tu ?_, h.ta⟩, hC⟩
  · rintro (e | e); exact h.box_ne.1 e.symm; exact (h.bad_ne e).2.1 rfl
  · rintro (e | e); exact h.box_ne.2.1 e.symm; exact (h.bad_ne e).2.2.1 rfl
  · rintro k e (e' | e')
    · cases e; exact h.has_ne.1 e'
    · cases e; exact h.has_ne.2.2.2.1 e'
  · obtain ⟨A, n, c, h1, h2, h3⟩ := h.ro j hj
    refine ⟨A, n, c, h1, hC.own h2 ?_, h3⟩
    rintro k e (e' | e')
    · exact (h.row_ne h1 e).1 e'
    · exact (h.row_ne h1 e).2.2.2.2.1 e'
  · rintro k e (e' | e')
    · exact (h.took_ne e).1 e'
    · exact (h.bad_ne e').2.2.2 e
theorem WSt.setTook (h : WSt W b x m tk) {w1 : World} {v : Value} {r : List E2} (hg : W.grownBy w1 x.tv.ownBlock) (hv : w1.ownsRow 0 43 2 v r.length (flat encE r)) (hnew : ∀ k, v.ownBlock = some k → x.tv.ownBlock = some k ∨ W.heap.size ≤ k) :
    WSt (w1.setCell ⟨b, 4, none⟩ v) b { x with tv := v } m r ∧ Chg (fun k => k = b ∨ x.tv.ownBlock = some k) W (w1.setCell ⟨b, 4, none⟩ v) := by
  have hC1 : Chg (fun k => x.tv.ownBlock = some k) W w1 := Chg.of_grown hg fun k e => e
  have hC : Chg (fun k => k = b ∨ x.tv.ownBlock = some k) W (w1.setCell ⟨b, 4, none⟩ v) := Chg.set (S := fun k => k = b ∨ x.tv.ownBlock = some k) (hC1.mono fun _ _ e => .inr e) (.inl rfl) _
  have hbx1 := h.bx.chg hC1 (fun e => (h.took_ne e).1 rfl)
  refine ⟨⟨by simpa using hbx1.set 4 v, h.sl.chg hC ?_, h.sn, h.pi.chg hC ?_, h.pn, hC.own h.ha ?_, h.hn, fun j hj => ?_, h.ap, hC.own h.ba ?_, ownsRow_setCell_other hv (own_ne hv (show w1.heap[b]? = _ from hbx1) (by decide)) _, ?_⟩, hC⟩
  · rintro (e | e); exact h.box_ne.1 e.symm; exact (h.took_ne e).2.1 rfl
  · rintro (e | e); exact h.box_ne.2.1 e.symm; exact (h.took_ne e).2.2 rfl
  · rintro k e (e' | e')
    · cases e; exact h.has_ne.1 e'
    · cases e; exact h.has_ne.2.2.2.2 e'
  · obtain ⟨A, n, c, h1, h2, h3⟩ := h.ro j hj
    refine ⟨A, n, c, h1, hC.own h2 ?_, h3⟩
    rintro k e (e' | e')
    · exact (h.row_ne h1 e).1 e'
    · exact (h.row_ne h1 e).2.2.2.2.2 e'
  · rintro k e (e' | e')
    · exact (h.bad_ne e).1 e'
    · exact (h.bad_ne e).2.2.2 e'
  · intro j u k hu hk e
    rcases hnew k e with e' | e'
    · exact h.ta j u k hu hk e'
    · obtain ⟨A, n, c, rfl, _, ho, _⟩ := h.row hu
      have := (ho.lt k hk).2; omega
end
end Go.Proofs.Ytdheckfndldbmaa

namespace Go.Proofs.Ytdheckfndldbmaa
open Go.RowKit
attribute [local go_sem] merge_t merge_f merge_a merge_o

/-- what a method comes to -/
def MPost (b : Nat) (x : WX) (W : World) (res : Except Int (MonD × List E2)) (r : Ending) (W' : World) : Prop :=
  Chg (x.fp b) W W' ∧ match res with
  | .error k => r = .panicked (errChain k)
  | .ok s => r = .returned (.tuple #[]) ∧ ∃ x', WSt W' b x' s.1 s.2 ∧ (∀ i, x'.fp b i → x.fp b i ∨ W.heap.size ≤ i)

theorem WSt.rdP {W : World} {b : Nat} {x : WX} {m : MonD} {tk : List E2} (h : WSt W b x m tk) : Rd 1 encB W (some ⟨x.P, 0, none⟩) x.g m.pinned := by
  have := h.pi.rd enc_B; rwa [h.pn] at this
theorem WSt.pinCell {W : World} {b : Nat} {x : WX} {m : MonD} {tk : List E2} (h : WSt W b x m tk) {i : Nat} (hi : i < x.g) : ∀ V, Later W V → V.cell? ⟨x.P, i, none⟩ = some (.bool (m.pinned[i]?.getD false)) := by
  obtain ⟨_, _, e, h1⟩ := h.rdP.atB i hi
  cases e
  simpa only [Nat.zero_add] using h1
theorem WSt.field {W : World} {b : Nat} {x : WX} {m : MonD} {tk : List E2} (h : WSt W b x m tk) :
    (∀ V, Later W V → V.cell? ⟨b, 0, none⟩ = some (.slice (some ⟨x.D, 0, none⟩) x.n x.n)) ∧ (∀ V, Later W V → V.cell? ⟨b, 1, none⟩ = some (.slice (some ⟨x.P, 0, none⟩) x.g x.g)) ∧ (∀ V, Later W V → V.cell? ⟨b, 2, none⟩ = some (.slice (some ⟨x.H, 0, none⟩) x.g x.hc)) ∧
    (∀ V, Later W V → V.cell? ⟨b, 3, none⟩ = some x.bv) ∧ (∀ V, Later W V → V.cell? ⟨b, 4, none⟩ = some x.tv) :=
  ⟨cel (h.bx.cell (i := 0) rfl), cel (h.bx.cell (i := 1) rfl), cel (h.bx.cell (i := 2) rfl), cel (h.bx.cell (i := 3) rfl), cel (h.bx.cell (i := 4) rfl)⟩
theorem WX.fp_P (x : WX) (b : Nat) : x.fp b x.P := .inr (.inl rfl)
theorem WX.fp_H (x : WX) (b : Nat) : x.fp b x.H := .inr (.inr (.inl rfl))
theorem WX.fp_b (x : WX) (b : Nat) : x.fp b b := .inl rfl

set_option maxRecDepth 100000 in
set_option maxHeartbeats 4000000 in
theorem wpinned_c (b : Nat) (x : WX) (m : MonD) (tk : List E2) (kd s g : Int) (i : Nat) (w : World) (hg : x.g ≤ 8) (hi : i < x.g) (h : WSt w b x m tk) :
    Calls Try.prog 81 #[.pointer (some ⟨b, 0, none⟩), .agg #[.int .i64 kd, .int .i64 i, .int .i64 s, .int .u64 g]] w fun r w' => r = (if m.pinned[i]?.getD false then .returned (.tuple #[]) else .panicked (errChain 4)) ∧ Later w w' := by
  obtain ⟨wb, hwb, hL, hz, f1, -⟩ := box1 w #[.int .i64 kd, .int .i64 i, .int .i64 s, .int .u64 g] 45
  have e1 := f1 1 (.int .i64 i) rfl
  have hb := h.later hL
  have p1 := hb.field.2.1
  have c1 := hb.pinCell hi
  clear f1 h hb
  obtain ⟨pk, hpk⟩ : ∃ p, m.pinned[i]?.getD false = p := ⟨_, rfl⟩
  rw [hpk] at c1
  rw [hpk]
  clear hpk
  go_enter Try.func81, Try.ntmps81
  go_wp2
  rw [hwb.out]
  refine region_ghost (S := Later wb) (af := ?_) 9 gF0 gV0 gE0 gU0 (by kernel_rfl) (by kernel_rfl) (by kernel_rfl) (by decide) (by kernel_rfl) (fun _ h => h.drew) (Later.refl _) (fun _ _ h h2 => h.trans h2) gL0 gO0 ?_ ?_
  rotate_left
  · intro t
    repeat (first
      | (refine SeqT.val (v := ?_) (by rfl) (by rfl) (fun W hW => ?_) ?_; rotate_left; (· (go_simp; try with_reducible rfl)); try simp only [Act.put, List.setIfInBounds_toArray, List.set_cons_zero, List.set_cons_succ])
      | (refine SeqT.skip (by rfl) (by rfl) ?_; try simp only [Act.put, List.setIfInBounds_toArray, List.set_cons_zero, List.set_cons_succ])
      )
    exact SeqT.nil _
  intro t W hW hV
  refine wpList_is (l' := [_]) rfl ?_
  clear hV
  cases pk with
  | false =>
    go_wp2_with (go_at_call 64; (with_reducible refine (mneed_no _ _).mono ?_); rintro e w9 ⟨rfl, rfl⟩)
    exact ⟨rfl, rfl, hL.trans hW⟩
  | true =>
    go_wp2_with (go_at_call 64; (with_reducible refine (mneed_yes _ _).mono ?_); rintro e w9 ⟨rfl, rfl⟩)
    refine bodyPost_end (results_none rfl _ _ _) rfl ?_
    exact ⟨rfl, hL.trans hW⟩

def pinD (m : MonD) (tk : List E2) (i : Nat) : Except Int (MonD × List E2) := if m.pinned[i]?.getD false then .error 5 else .ok ({ m with pinned := m.pinned.set i true }, tk)

set_option maxRecDepth 100000 in
set_option maxHeartbeats 4000000 in
theorem wpin_c (b : Nat) (x : WX) (m : MonD) (tk : List E2) (kd s g : Int) (i : Nat) (w : World) (hg : x.g ≤ 8) (hi : i < x.g) (h : WSt w b x m tk) :
    Calls Try.prog 69 #[.pointer (some ⟨b, 0, none⟩), .agg #[.int .i64 kd, .int .i64 i, .int .i64 s, .int .u64 g]] w (MPost b x w (pinD m tk i)) := by
  obtain ⟨wb, hwb, hL, hz, f1, -⟩ := box1 w #[.int .i64 kd, .int .i64 i, .int .i64 s, .int .u64 g] 45
  have e1 := f1 1 (.int .i64 i) rfl
  have hb := h.later hL
  have p1 := hb.field.2.1
  have c1 := hb.pinCell hi
  have HB := Lib.hid hb
  clear f1 h hb
  cases hpk : m.pinned[i]?.getD false with
  | true =>
    rw [hpk] at c1
    have HP : Hid (pinD m tk i = .error 5) := by show _ = _; simp [pinD, hpk]
    clear hpk
    go_enter Try.func69, Try.ntmps69
    go_wp2
    rw [hwb.out]
    refine region_ghost (S := Later wb) (af := ?_) 10 gF0 gV0 gE0 gU0 (by kernel_rfl) (by kernel_rfl) (by kernel_rfl) (by decide) (by kernel_rfl) (fun _ h => h.drew) (Later.refl _) (fun _ _ h h2 => h.trans h2) gL0 gO0 ?_ ?_
    rotate_left
    · intro t
      repeat (first
        | (refine SeqT.val (v := ?_) (by rfl) (by rfl) (fun W hW => ?_) ?_; rotate_left; (· (go_simp; try with_reducible rfl)); try simp only [Act.put, List.setIfInBounds_toArray, List.set_cons_zero, List.set_cons_succ])
        | (refine SeqT.skip (by rfl) (by rfl) ?_; try simp only [Act.put, List.setIfInBounds_toArray, List.set_cons_zero, List.set_cons_succ])
        )
      exact SeqT.nil _
    intro t W hW hV
    refine wpList_is (l' := [_]) rfl ?_
    clear hV
    go_wp2_with (go_at_call 64; (with_reducible refine (mneed_no _ _).mono ?_); rintro e w9 ⟨rfl, rfl⟩)
    exact ⟨rfl, Chg.of_later (hL.trans hW), by rw [HP.out]⟩
  | false =>
    rw [hpk] at c1
    have HP : Hid (pinD m tk i = .ok ({ m with pinned := m.pinned.set i true }, tk)) := by show _ = _; simp [pinD, hpk]
    clear hpk
    go_enter Try.func69, Try.ntmps69
    go_wp2
    rw [hwb.out]
    refine region_ghost (S := Later wb) (af := ?_) 10 gF0 gV0 gE0 gU0 (by kernel_rfl) (by kernel_rfl) (by kernel_rfl) (by decide) (by kernel_rfl) (fun _ h => h.drew) (Later.refl _) (fun _ _ h h2 => h.trans h2) gL0 gO0 ?_ ?_
    rotate_left
    · intro t
      repeat (first
        | (refine SeqT.val (v := ?_) (by rfl) (by rfl) (fun W hW => ?_) ?_; rotate_left; (· (go_simp; try with_reducible rfl)); try simp only [Act.put, List.setIfInBounds_toArray, List.set_cons_zero, List.set_cons_succ])
        | (refine SeqT.skip (by rfl) (by rfl) ?_; try simp only [Act.put, List.setIfInBounds_toArray, List.set_cons_zero, List.set_cons_succ])
        )
      exact SeqT.nil _
    intro t W hW hV
    refine wpList_is (l' := [_]) rfl ?_
    clear hV
    generalize W = Wa at *
    have hWa := hW
    clear hW
    go_wp2_with (go_at_call 64; (with_reducible refine (mneed_yes _ _).mono ?_); rintro e w9 ⟨rfl, rfl⟩)
    refine region_ghost (S := Later wb) (af := ?_) 8 gF0 gV0 gE0 gU0 (by kernel_rfl) (by kernel_rfl) (by kernel_rfl) (by decide) (by kernel_rfl) (fun _ h => h.drew) hWa (fun _ _ h h2 => h.trans h2) gL0 gO0 ?_ ?_
    rotate_left
    · intro t
      repeat (first
        | (refine SeqT.val (v := ?_) (by rfl) (by rfl) (fun W hW => ?_) ?_; rotate_left; (· (go_simp; try with_reducible rfl)); try simp only [Act.put, List.setIfInBounds_toArray, List.set_cons_zero, List.set_cons_succ])
        | (refine SeqT.skip (by rfl) (by rfl) ?_; try simp only [Act.put, List.setIfInBounds_toArray, List.set_cons_zero, List.set_cons_succ])
        )
      exact SeqT.nil _
    intro t W hW hV
    refine wpList_is (l' := [_]) rfl ?_
    clear hV
    have hbW := HB.out.later hW
    have fz := hbW.pi.frozen i
    have hS := hbW.setPin i true
    have HS := Lib.hid hS
    have c1' := c1 _ hW
    clear hbW hS
    go_wp2
    refine bodyPost_end (results_none rfl _ _ _) rfl ?_
    refine ⟨Chg.set (S := x.fp b) (Chg.of_later (hL.trans hW)) (x.fp_P b) _, ?_⟩
    rw [HP.out]
    exact ⟨rfl, x, HS.out, fun _ h => .inl h⟩
end Go.Proofs.Ytdheckfndldbmaa

namespace Go.Proofs.Ytdheckfndldbmaa
open Go.RowKit
attribute [local go_sem] merge_t merge_f merge_a merge_o

section
variable {W : World} {b : Nat} {x : WX} {m : MonD} {tk : List E2}
theorem WSt.hasCell (h : WSt W b x m tk) {i : Nat} {u : Value} (hu : x.vals[i]? = some u) : W.cell? ⟨x.H, i, none⟩ = some u := by
  have := h.ha.cells (g := x.H) rfl i u hu
  rwa [add_at, Nat.zero_add] at this
theorem own_frozen {w : World} {b0 : Nat} {e : TypeId} {sz g o n c : Nat} {xs : List Value} (h : w.ownsRow b0 e sz (.slice (some ⟨g, o, none⟩) n c) n xs) (i : Nat) : w.frozen? ⟨g, i, none⟩ = false := by
  rcases h.2 with ⟨hn, _⟩ | ⟨g', cap, cur, hs, hb, hh, h1, h2, h3, h4⟩
  · cases hn
  · cases hs; exact heap_frozen hh i
theorem WSt.val (h : WSt W b x m tk) {i : Nat} (hi : i < x.g) : ∃ A n c, x.vals[i]? = some (.slice A n c) ∧ W.ownsRow 0 43 2 (.slice A n c) n (flat encE (m.has[i]?.getD [])) ∧ (m.has[i]?.getD []).length = n := h.ro i hi
end

def unpinD (m : MonD) (tk : List E2) (i : Nat) : Except Int (MonD × List E2) := if m.pinned[i]?.getD false then .ok ({ m with pinned := m.pinned.set i false, has := m.has.set i [] }, tk) else .error 4

set_option maxRecDepth 100000 in
set_option maxHeartbeats 4000000 in
theorem wunpin_c (b : Nat) (x : WX) (m : MonD) (tk : List E2) (kd s g : Int) (i : Nat) (w : World) (hg : x.g ≤ 8) (hi : i < x.g) (h : WSt w b x m tk) :
    Calls Try.prog 70 #[.pointer (some ⟨b, 0, none⟩), .agg #[.int .i64 kd, .int .i64 i, .int .i64 s, .int .u64 g]] w (MPost b x w (unpinD m tk i)) := by
  obtain ⟨wb, hwb, hL, hz, f1, -⟩ := box1 w #[.int .i64 kd, .int .i64 i, .int .i64 s, .int .u64 g] 45
  have e0 := f1 0 (.int .i64 kd) rfl
  have e1 := f1 1 (.int .i64 i) rfl
  have e2 := f1 2 (.int .i64 s) rfl
  have e3 := f1 3 (.int .u64 g) rfl
  have hb := h.later hL
  have cP : Hid (∀ V, Later wb V → Calls Try.prog 81 #[.pointer (some ⟨b, 0, none⟩), .agg #[.int .i64 kd, .int .i64 i, .int .i64 s, .int .u64 g]] V fun r w' => r = (if m.pinned[i]?.getD false then .returned (.tuple #[]) else .panicked (errChain 4)) ∧ Later V w') := fun V hV => wpinned_c b x m tk kd s g i V hg hi (hb.later hV)
  have HB := Lib.hid hb
  have hPz : x.P < w.heap.size := h.pi.lt
  clear f1 h hb
  cases hpk : m.pinned[i]?.getD false with
  | false =>
    have HP : Hid (unpinD m tk i = .error 4) := by show _ = _; simp [unpinD, hpk]
    have HK := Lib.hid hpk
    clear hpk
    go_enter Try.func70, Try.ntmps70
    go_wp2_with fail
    rw [hwb.out]
    refine (cP.out _ (Later.refl _)).mono ?_
    rw [HK.out]
    rintro e w1 ⟨rfl, hL1⟩
    exact ⟨rfl, Chg.of_later (hL.trans hL1), by rw [HP.out]⟩
  | true =>
    have HP : Hid (unpinD m tk i = .ok ({ m with pinned := m.pinned.set i false, has := m.has.set i [] }, tk)) := by show _ = _; simp [unpinD, hpk]
    have HK := Lib.hid hpk
    clear hpk
    go_enter Try.func70, Try.ntmps70
    go_wp2_with fail
    rw [hwb.out]
    refine (cP.out _ (Later.refl _)).mono ?_
    rw [HK.out]
    rintro e w1 ⟨rfl, hL1⟩
    have h1 := HB.out.later hL1
    have hbp := h1.box_ne
    have hhe := h1.has_ne
    have p1 : ∀ V, Chg (fun k => k = x.P) w1 V → V.cell? ⟨b, 1, none⟩ = some (.slice (some ⟨x.P, 0, none⟩) x.g x.g) := celS hbp.2.1 (h1.bx.cell (i := 1) rfl)
    have p2 : ∀ V, Chg (fun k => k = x.P) w1 V → V.cell? ⟨b, 2, none⟩ = some (.slice (some ⟨x.H, 0, none⟩) x.g x.hc) := celS hbp.2.1 (h1.bx.cell (i := 2) rfl)
    have p3 : ∀ V, Chg (fun k => k = x.P) w1 V → V.cell? ⟨w.heap.size, 1, none⟩ = some (.int .i64 i) := celS (by omega) (e1 _ hL1)
    obtain ⟨A, n, c, hu, -, -⟩ := h1.val hi
    have hcap : x.g ≤ x.hc ∧ x.hc ≤ 9223372036854775807 := by obtain ⟨_, _, e, h1, h2⟩ := own_slice h1.ha; cases e; unfold maxLen at h2; omega
    have H1 := Lib.hid h1
    clear h1 hbp hhe e0 e1 e2 e3
    go_wp2
    refine Y.region_full (S := (Chg (fun k => k = x.P) w1)) (R := (oneR 15 (Chg (fun k => k = x.P)))) (N := (oneP 15 fun V => WSt V b x m tk)) (Pn := (fun _ _ => False)) (af := ?_) 16 (fun _ _ => undef) (fun j _ => oneP 15 (fun V => WSt V b x { m with pinned := m.pinned.set i false } tk) j) (oneE 15) gU0 (by kernel_rfl) (by kernel_rfl) (by kernel_rfl) (by decide) (by kernel_rfl) (fun _ h => h.drew) (Chg.refl _ _) (fun _ _ _ h h2 => h.trans h2.2) oneVL oneNL (fun _ _ _ _ _ _ h => h) (fun _ _ _ => H1.out.later ((Later.refl _).drew)) ?_ (fun _ _ _ _ h => h.elim) ?_
    rotate_left
    · intro t
      repeat (first
        | (refine Y.SeqT.val (v := ?_) (by rfl) (by rfl) (fun W hW => ?_) ?_; rotate_left; (· (go_simp; try with_reducible rfl)); try simp only [Act.put, List.setIfInBounds_toArray, List.set_cons_zero, List.set_cons_succ])
        | (refine Y.SeqT.skip (by rfl) (by rfl) ?_; try simp only [Act.put, List.setIfInBounds_toArray, List.set_cons_zero, List.set_cons_succ])
        | (refine Y.SeqT.store (by rfl) (by rfl) (fun _ => by rfl) (fun W hW hN hd => ?_) ?_; (· (have q := hN rfl; have q0 := q.pinCell hi _ (Later.refl _); have qf := q.pi.frozen i; have hS := q.setPin i false; exact ⟨W.setCell ⟨x.P, i, none⟩ (.bool false), by go_simp, fun _ => hS, rfl, Chg.set (S := fun k => k = x.P) (Chg.refl _ _) rfl _⟩)); try simp only [Act.put, List.setIfInBounds_toArray, List.set_cons_zero, List.set_cons_succ])
        )
      exact Y.SeqT.nil _
    intro t W hW hV
    refine wpList_is (l' := [_, _]) rfl ?_
    have h15 := hV 15 (by decide) rfl rfl
    have q0 := h15.hasCell hu
    have qf := own_frozen h15.ha i
    obtain ⟨hS, hC⟩ := h15.setRow (w1 := W) (v := .slice none 0 0) (r := []) hi hu ⟨rfl, rfl, rfl, Nat.le_refl _, fun _ _ _ => rfl⟩ ⟨none, 0, 0, rfl, World.ownsRow_nil _ _ _ _, rfl⟩ (fun k e => by simp [Value.ownBlock] at e)
    have HF : Hid (WSt (W.setCell ⟨x.H, i, none⟩ (.slice none 0 0)) b { x with vals := x.vals.set i (.slice none 0 0) } { m with pinned := m.pinned.set i false, has := m.has.set i [] } tk ∧ Chg (x.fp b) w (W.setCell ⟨x.H, i, none⟩ (.slice none 0 0))) :=
      ⟨hS, Chg.set (((Chg.of_later (hL.trans hL1)).trans (hW.mono fun k _ e => by subst e; exact x.fp_P b))) (x.fp_H b) _⟩
    clear hV h15 hS hC
    go_wp2
    refine bodyPost_end (results_none rfl _ _ _) rfl ?_
    refine ⟨HF.out.2, ?_⟩
    rw [HP.out]
    refine ⟨rfl, _, HF.out.1, fun k hk => ?_⟩
    rcases hk with h | h | h | ⟨j, u, hj, hk⟩ | h | h
    · exact .inl (.inl h)
    · exact .inl (.inr (.inl h))
    · exact .inl (.inr (.inr (.inl h)))
    · dsimp only at hj
      by_cases hji : j = i
      · subst hji
        rw [List.getElem?_set] at hj
        simp at hj
        rw [← hj.2] at hk; simp [Value.ownBlock] at hk
      · rw [List.getElem?_set_ne (fun e => hji e.symm)] at hj
        exact .inl (.inr (.inr (.inr (.inl ⟨j, u, hj, hk⟩))))
    · exact .inl (.inr (.inr (.inr (.inr (.inl h)))))
    · exact .inl (.inr (.inr (.inr (.inr (.inr h)))))
end Go.Proofs.Ytdheckfndldbmaa

namespace Go.Proofs.Ytdheckfndldbmaa
open Go.RowKit
attribute [local go_sem] merge_t merge_f merge_a merge_o

theorem exec_append {P : Program} {o : Oper} {ρ : Operand → Value} {W W' : World} (s x : Operand) (t : TypeId) (ho : o.op = .call { callee := .builtin .append, args := #[s, x], argTypes := #[t, t] })
    {v v' : Value} {ad : Option Addr} {m c : Nat} (hs : ρ s = v) (hx : ρ x = .slice ad m c) (hr : (Builtin.append_ #[t, t] o.type #[v, .slice ad m c]).run P W = .ok v' W') : (execOp ρ o).run P W = .ok (.value v') W' := by
  unfold execOp
  simp only [ho, resolve, invoke, builtin, Sem.run_bind, Sem.run_pure, Result.andThen_ok, List.map_toArray, List.map_cons, List.map_nil, hs, hx, hr]
theorem WX.fp_val (x : WX) (b i : Nat) (v : Value) {k : Nat} (h : ({ x with vals := x.vals.set i v } : WX).fp b k) : x.fp b k ∨ v.ownBlock = some k := by
  rcases h with h | h | h | ⟨j, u, hj, hk⟩ | h | h
  · exact .inl (.inl h)
  · exact .inl (.inr (.inl h))
  · exact .inl (.inr (.inr (.inl h)))
  · dsimp only at hj
    by_cases hji : j = i
    · subst hji
      rw [List.getElem?_set] at hj
      split at hj
      · split at hj
        · cases hj; exact .inr hk
        · cases hj
      · rename_i hne; exact absurd rfl hne
    · rw [List.getElem?_set_ne (fun e => hji e.symm)] at hj
      exact .inl (.inr (.inr (.inr (.inl ⟨j, u, hj, hk⟩))))
  · exact .inl (.inr (.inr (.inr (.inr (.inl h)))))
  · exact .inl (.inr (.inr (.inr (.inr (.inr h)))))

def getD1 (m : MonD) (i : Nat) (e : E2) : MonD := if e ∈ m.has[i]?.getD [] then m else { m with has := m.has.set i (m.has[i]?.getD [] ++ [e]) }
def getDD (m : MonD) (tk : List E2) (i : Nat) (e : E2) : Except Int (MonD × List E2) := if m.pinned[i]?.getD false then .ok (getD1 m i e, tk) else .error 4

def gtR (u : Value) (k : Nat) (W W' : World) : Prop := if k = 19 then Chg (fun j => u.ownBlock = some j) W W' else Later W W'
def gtN (u : Value) (n : Nat) (r : List E2) (k : Nat) (W : World) : Prop := k = 19 → W.ownsRow 0 43 2 u n (flat encE r)
def gtV (w : World) (u : Value) (n : Nat) (r : List E2) (e : E2) : Nat → (Nat → Gh) → World → Prop
  | 18, t, W => w.heap.size ≤ (t 18).n ∧ Box W (t 18).n #[.int .i64 e.1, .int .u64 e.2] 43
  | 19, t, W => W.ownsRow 0 43 2 (.slice (t 19).A (n + 1) (t 19).c) (n + 1) (flat encE (r ++ [e])) ∧ ∀ k, (Value.slice (t 19).A (n + 1) (t 19).c).ownBlock = some k → u.ownBlock = some k ∨ w.heap.size ≤ k
  | _, _, _ => True
def gtF (n : Nat) : Nat → Gh → Value
  | 19, s => .slice s.A (n + 1) s.c
  | _, s => .slice (some ⟨s.n, 0, none⟩) 1 1
def gtE (i : Nat) : Bool := i == 18 || i == 19
theorem gtSL {u : Value} {w : World} : ∀ i W W', Chg (fun j => u.ownBlock = some j) w W → gtR u i W W' → Chg (fun j => u.ownBlock = some j) w W' := fun i W W' h hR => by
  unfold gtR at hR; split at hR
  · exact h.trans hR
  · exact h.later hR
theorem gtVL {w : World} {u : Value} {n : Nat} {r : List E2} {e : E2} (hu : ∀ k, u.ownBlock = some k → k < w.heap.size) : ∀ i j t W W', i ≠ j → gtV w u n r e j t W → gtR u i W W' → gtV w u n r e j t W' := fun i j t W W' hij h hR => by
  unfold gtV at *
  split at h
  · refine ⟨h.1, ?_⟩
    unfold gtR at hR; split at hR
    · exact h.2.chg hR (fun e => by have := hu _ e; omega)
    · exact h.2.later hR
  · unfold gtR at hR
    rw [if_neg hij] at hR
    exact ⟨hR.own h.1, h.2⟩
  · trivial
theorem gtNL {u : Value} {n : Nat} {r : List E2} : ∀ i j W W', i ≠ j → gtN u n r j W → gtR u i W W' → gtN u n r j W' := fun i j W W' hij h hR hj => by
  unfold gtR at hR
  rw [if_neg (by omega)] at hR
  exact hR.own (h hj)
theorem gtLoc {w : World} {u : Value} {n : Nat} {r : List E2} {e : E2} : ∀ j (t t' : Nat → Gh) W, t j = t' j → (∀ k, k ∈ gU0 j → t k = t' k) → gtV w u n r e j t W → gtV w u n r e j t' W := by
  intro j t t' W h _ hV
  unfold gtV at *
  split at hV <;> simp_all

set_option maxRecDepth 100000 in
set_option maxHeartbeats 8000000 in
theorem wget_c (b : Nat) (x : WX) (m : MonD) (tk : List E2) (kd s g : Int) (i : Nat) (w : World) (hg : x.g ≤ 8) (hi : i < x.g) (hb1 : (m.has[i]?.getD []).length ≤ 2000000) (h : WSt w b x m tk) :
    Calls Try.prog 71 #[.pointer (some ⟨b, 0, none⟩), .agg #[.int .i64 kd, .int .i64 i, .int .i64 s, .int .u64 g]] w (MPost b x w (getDD m tk i (s, g))) := by
  obtain ⟨wb, hwb, hL, hz, f1, -⟩ := box1 w #[.int .i64 kd, .int .i64 i, .int .i64 s, .int .u64 g] 45
  have e0 := f1 0 (.int .i64 kd) rfl
  have e1 := f1 1 (.int .i64 i) rfl
  have e2 := f1 2 (.int .i64 s) rfl
  have e3 := f1 3 (.int .u64 g) rfl
  have hb := h.later hL
  have cP : Hid (∀ V, Later wb V → Calls Try.prog 81 #[.pointer (some ⟨b, 0, none⟩), .agg #[.int .i64 kd, .int .i64 i, .int .i64 s, .int .u64 g]] V fun r w' => r = (if m.pinned[i]?.getD false then .returned (.tuple #[]) else .panicked (errChain 4)) ∧ Later V w') := fun V hV => wpinned_c b x m tk kd s g i V hg hi (hb.later hV)
  have HB := Lib.hid hb
  clear f1 h hb
  cases hpk : m.pinned[i]?.getD false with
  | false =>
    have HP : Hid (getDD m tk i (s, g) = .error 4) := by show _ = _; simp [getDD, hpk]
    have HK := Lib.hid hpk
    clear hpk
    go_enter Try.func71, Try.ntmps71
    go_wp2_with fail
    rw [hwb.out]
    refine (cP.out _ (Later.refl _)).mono ?_
    rw [HK.out]
    rintro e w1 ⟨rfl, hL1⟩
    exact ⟨rfl, Chg.of_later (hL.trans hL1), by rw [HP.out]⟩
  | true =>
    have HP : Hid (getDD m tk i (s, g) = .ok (getD1 m i (s, g), tk)) := by show _ = _; simp [getDD, hpk]
    have HK := Lib.hid hpk
    clear hpk
    obtain ⟨A, n, c, hu, hro, hrn⟩ := HB.out.val hi
    obtain ⟨_, _, er, hnc, hcm, hrd⟩ := rd_of_own enc_E hrn hro
    cases er
    have hcap : x.g ≤ x.hc ∧ x.hc ≤ 9223372036854775807 := by obtain ⟨_, _, e, h1, h2⟩ := own_slice HB.out.ha; cases e; unfold maxLen at h2; omega
    have hn2 : n ≤ 2000000 := by omega
    obtain ⟨ct, hct⟩ : ∃ ct, decide ((s, g) ∈ m.has[i]?.getD []) = ct := ⟨_, rfl⟩
    have cH : Hid (∀ V, Later wb V → Calls Try.prog 15 #[.slice A n c, .agg #[.int .i64 s, .int .u64 g]] V fun r w' => r = .returned (.bool ct) ∧ Later V w') := fun V hV => as_bool (containsE_c A n c _ s g V (by omega) (hrd.later hV)) hct
    have HCT := Lib.hid hct
    have HU := Lib.hid hu
    have HRO := Lib.hid hro
    have HRN := Lib.hid hrn
    clear hct hu hro hrn hrd
    go_enter Try.func71, Try.ntmps71
    go_wp2_with fail
    rw [hwb.out]
    refine (cP.out _ (Later.refl _)).mono ?_
    rw [HK.out]
    rintro e w1 ⟨rfl, hL1⟩
    have h1 := HB.out.later hL1
    have p2 := h1.field.2.2.1
    have p3 := celw hL1 e0
    have p4 := celw hL1 e1
    have p5 := celw hL1 e2
    have p6 := celw hL1 e3
    have q0 := cel (h1.hasCell HU.out)
    have H1 := Lib.hid h1
    clear h1
    go_wp2
    refine region_draw (S := Later w1) (af := ?_) (by kernel_rfl) (by kernel_rfl) (fun _ h => h.drew) (Later.refl _) ?_ ?_
    rotate_left
    · repeat (first
        | (refine SeqL.val (v := ?_) (by rfl) (fun W hW => ?_) ?_; rotate_left; (· (go_simp; try with_reducible rfl)); try simp only [Act.put, List.setIfInBounds_toArray, List.set_cons_zero, List.set_cons_succ])
        | (refine SeqL.skip (by rfl) ?_; try simp only [Act.put, List.setIfInBounds_toArray, List.set_cons_zero, List.set_cons_succ])
        | (refine SeqL.call (v := ?_) (f := ?_) (args := ?_) (by rfl) (fun W hW => ?_) (fun W hW => ?_) ?_; rotate_left 3; (· (go_simp; first | with_reducible rfl | (refine ⟨?_, ?_⟩ <;> with_reducible rfl))); (· ((with_reducible refine (cH.out _ (hL1.trans hW)).mono ?_); rintro e W1 ⟨rfl, hL1⟩; refine ⟨?_, hW.trans hL1⟩; with_reducible rfl)); try simp only [Act.put, List.setIfInBounds_toArray, List.set_cons_zero, List.set_cons_succ])
        )
      exact SeqL.nil _
    intro w2 hL2
    have h2 := H1.out.later hL2
    cases ct with
    | true =>
      go_wp2
      refine bodyPost_end (results_none rfl _ _ _) rfl ?_
      refine ⟨Chg.of_later (hL.trans (hL1.trans hL2)), ?_⟩
      rw [HP.out, getD1, if_pos (of_decide_eq_true HCT.out)]
      exact ⟨rfl, x, h2, fun _ h => .inl h⟩
    | false =>
      have hnin : ¬ (s, g) ∈ m.has[i]?.getD [] := of_decide_eq_false HCT.out
      have HNI := Lib.hid hnin
      have HRO2 := Lib.hid ((hL1.trans hL2).own HRO.out)
      have hrn := fun k (hk : (Value.slice A n c).ownBlock = some k) => h2.row_ne HU.out hk
      have hlt : ∀ k, (Value.slice A n c).ownBlock = some k → k < w2.heap.size := fun k hk => (HRO2.out.lt k hk).2
      have hlt0 : ∀ k, (Value.slice A n c).ownBlock = some k → k < wb.heap.size := fun k hk => (HRO.out.lt k hk).2
      have hbw : Box w2 w.heap.size #[.int .i64 kd, .int .i64 i, .int .i64 s, .int .u64 g] 45 := by
        have : Box wb w.heap.size #[.int .i64 kd, .int .i64 i, .int .i64 s, .int .u64 g] 45 := by rw [← hwb.out]; exact Box.new _ _ _
        exact this.later (hL1.trans hL2)
      have hbn : ¬ (Value.slice A n c).ownBlock = some w.heap.size := fun e => own_ne HRO2.out (show w2.heap[w.heap.size]? = _ from hbw) (by decide) e
      have r2 : ∀ V, Chg (fun k => (Value.slice A n c).ownBlock = some k) w2 V → V.cell? ⟨b, 2, none⟩ = some (.slice (some ⟨x.H, 0, none⟩) x.g x.hc) := celS (fun e => (hrn _ e).1 rfl) (h2.bx.cell (i := 2) rfl)
      have r3 : ∀ V, Chg (fun k => (Value.slice A n c).ownBlock = some k) w2 V → V.cell? ⟨x.H, i, none⟩ = some (.slice A n c) := celS (fun e => (hrn _ e).2.2.2.1 rfl) (h2.hasCell HU.out)
      have r4 : ∀ V, Chg (fun k => (Value.slice A n c).ownBlock = some k) w2 V → V.cell? ⟨w.heap.size, 1, none⟩ = some (.int .i64 i) := celS hbn (hbw.cell (i := 1) rfl)
      have r5 : ∀ V, Chg (fun k => (Value.slice A n c).ownBlock = some k) w2 V → V.cell? ⟨w.heap.size, 2, none⟩ = some (.int .i64 s) := celS hbn (hbw.cell (i := 2) rfl)
      have r6 : ∀ V, Chg (fun k => (Value.slice A n c).ownBlock = some k) w2 V → V.cell? ⟨w.heap.size, 3, none⟩ = some (.int .u64 g) := celS hbn (hbw.cell (i := 3) rfl)
      obtain ⟨i0, hi', hz0, hz1, hz2⟩ := info_parts infoE
      have Hi : Hid (Try.prog.info? 43 = some i0 ∧ i0.zero = some (.agg #[.int .i64 0, .int .u64 0]) ∧ i0.size = 2 ∧ i0.bytes = 16) := ⟨hi', hz0, hz1, hz2⟩
      have H2 := Lib.hid h2
      clear hi' hz0 hz1 hz2 hnin h2 hbw p2 p3 p4 p5 p6 q0 e0 e1 e2 e3 hrn
      go_wp2
      refine Y.region_full (S := (Chg (fun k => (Value.slice A n c).ownBlock = some k) w2)) (R := (gtR (.slice A n c))) (N := (gtN (.slice A n c) n (m.has[i]?.getD []))) (Pn := (fun _ _ => False)) (af := ?_) 20 (gtF n) (gtV w2 (.slice A n c) n (m.has[i]?.getD []) (s, g)) gtE gU0 (by kernel_rfl) (by kernel_rfl) (by kernel_rfl) (by decide) (by kernel_rfl) (fun _ h => h.drew) (Chg.refl _ _) gtSL (gtVL hlt) gtNL gtLoc (fun _ _ _ => ((Later.refl _).drew).own HRO2.out) ?_ (fun _ _ _ _ h => h.elim) ?_
      rotate_left
      · intro t
        repeat (first
          | (refine Y.SeqT.val (v := ?_) (by rfl) (by rfl) (fun W hW => ?_) ?_; rotate_left; (· (go_simp; try with_reducible rfl)); try simp only [Act.put, List.setIfInBounds_toArray, List.set_cons_zero, List.set_cons_succ])
          | (refine Y.SeqT.skip (by rfl) (by rfl) ?_; try simp only [Act.put, List.setIfInBounds_toArray, List.set_cons_zero, List.set_cons_succ])
          | (refine Y.SeqT.make (.slice (some ⟨(t 18).n, 0, none⟩) 1 1) (by rfl) (by rfl) (by rfl) (fun W hW hN hd => ?_) ?_; (· (exact ⟨⟨none, W.heap.size, 0, undef⟩, W.alloc (.cells #[.int .i64 s, .int .u64 g] 43), by go_simp; first | rfl | exact ⟨rfl, rfl⟩, ⟨hW.size, Box.new _ _ _⟩, (Later.refl W).alloc _⟩)); try simp only [Act.put, List.setIfInBounds_toArray, List.set_cons_zero, List.set_cons_succ])
          | (refine Y.SeqT.make (.slice (t 19).A (n + 1) (t 19).c) (by rfl) (by rfl) (by rfl) (fun W hW hN hd => ?_) ?_; (· ((obtain ⟨hb3, h3⟩ := hd 18 rfl ⟨{ on := 18, ground := Ground.data }, by simp, rfl, rfl⟩; have hcell : ∀ j u, [Value.int .i64 s, .int .u64 g][j]? = some u → W.cell? ((⟨(t 18).n, 0, none⟩ : Addr).add j) = some u := (fun j u hu => by rw [add_at, Nat.zero_add]; exact h3.cell (by simpa using hu)); obtain ⟨v', w', hr, q2, q4, q5, q6⟩ := run_append_own_at (P := Try.prog) W 0 54 54 43 i0 (.agg #[.int .i64 0, .int .u64 0]) 2 16 Try.underlying54 Hi.out.1 Hi.out.2.1 Hi.out.2.2.1 Hi.out.2.2.2 rfl (by decide) (.slice A n c) n _ (hN rfl) ⟨(t 18).n, 0, none⟩ 1 1 [.int .i64 s, .int .u64 g] rfl hcell (by intro u hu; simp only [List.mem_cons, List.not_mem_nil, or_false] at hu; rcases hu with rfl | rfl <;> rfl) (by unfold maxLen; omega) (by omega) (Nat.zero_le _); obtain ⟨A', c', rfl, -, -⟩ := own_slice q2; exact ⟨⟨A', 0, c', undef⟩, w', exec_append (.tmp 35) (.tmp 38) _ rfl rfl rfl hr, (by simp only [gtV, upd, if_true]; exact ⟨by rw [flat_append, flat_one]; exact q2, fun k hk => by rcases q6 with e | e; exact .inl (by rw [← e]; exact hk); exact .inr (by rw [hk] at e; cases e; exact hW.size)⟩), (by show (if 19 = 19 then _ else _); rw [if_pos rfl]; exact Chg.of_grown q4 fun k e => e)⟩))); try simp only [Act.put, List.setIfInBounds_toArray, List.set_cons_zero, List.set_cons_succ])
          )
        exact Y.SeqT.nil _
      intro t W hW hV
      refine wpList_is (l' := [_, _]) rfl ?_
      have h19 := hV 19 (by decide) rfl
      simp only [gtV] at h19
      generalize (t 19).A = A9 at *
      generalize (t 19).c = c9 at *
      obtain ⟨ho9, hw9⟩ := h19
      clear hV
      have hlen9 : (m.has[i]?.getD [] ++ [(s, g)]).length = n + 1 := by rw [List.length_append, HRN.out]; rfl
      obtain ⟨hS, hC⟩ := H2.out.setRow (w1 := W) (v := .slice A9 (n + 1) c9) (r := m.has[i]?.getD [] ++ [(s, g)]) hi HU.out (hW.grownBy fun k _ e => e) ⟨A9, n + 1, c9, rfl, ho9, hlen9⟩ hw9
      have HF := Lib.hid (show _ ∧ _ from ⟨hS, hC⟩)
      have hHW := hW.own H2.out.ha (fun k e e' => by cases e; exact (H2.out.row_ne HU.out e').2.2.2.1 rfl)
      have s0 : W.cell? ⟨x.H, i, none⟩ = some (.slice A n c) := r3 _ hW
      have sf := own_frozen hHW i
      clear hS hC ho9 hHW
      go_wp2
      refine bodyPost_end (results_none rfl _ _ _) rfl ?_
      refine ⟨(Chg.of_later (hL.trans (hL1.trans hL2))).trans' HF.out.2 (fun k _ e => ?_), ?_⟩
      · rcases e with e | e
        · subst e; exact x.fp_H b
        · exact .inr (.inr (.inr (.inl ⟨i, _, HU.out, e⟩)))
      · rw [HP.out, getD1, if_neg HNI.out]
        refine ⟨rfl, _, HF.out.1, fun k hk => ?_⟩
        rcases x.fp_val b i _ hk with e | e
        · exact .inl e
        · rcases hw9 k e with e | e
          · exact .inl (.inr (.inr (.inr (.inl ⟨i, _, HU.out, e⟩))))
          · exact .inr (by have := (hL.trans (hL1.trans hL2)).sz; omega)
end Go.Proofs.Ytdheckfndldbmaa

namespace Go.Proofs.Ytdheckfndldbmaa
open Go.RowKit
attribute [local go_sem] merge_t merge_f merge_a merge_o

/-! ### one element more: p makes it, q appends it -/
def apR (q : Nat) (u : Value) (k : Nat) (W W' : World) : Prop := if k = q then Chg (fun j => u.ownBlock = some j) W W' else Later W W'
def apN (q : Nat) (e : TypeId) (sz : Nat) (u : Value) (n : Nat) (xs : List Value) (k : Nat) (W : World) : Prop := k = q → W.ownsRow 0 e sz u n xs
def apV (p q : Nat) (e : TypeId) (sz : Nat) (w : World) (u : Value) (n : Nat) (xs news : List Value) (k : Nat) (t : Nat → Gh) (W : World) : Prop :=
  if k = p then w.heap.size ≤ (t p).n ∧ Box W (t p).n news.toArray e
  else if k = q then W.ownsRow 0 e sz (.slice (t q).A (n + 1) (t q).c) (n + 1) (xs ++ news) ∧ ∀ k, (Value.slice (t q).A (n + 1) (t q).c).ownBlock = some k → u.ownBlock = some k ∨ w.heap.size ≤ k else True
def apF (q n k : Nat) (s : Gh) : Value := if k = q then .slice s.A (n + 1) s.c else .slice (some ⟨s.n, 0, none⟩) 1 1
def apE (p q i : Nat) : Bool := i == p || i == q
section
variable {p q : Nat} {e : TypeId} {sz : Nat} {w : World} {u : Value} {n : Nat} {xs news : List Value}
theorem apSL : ∀ i W W', Chg (fun j => u.ownBlock = some j) w W → apR q u i W W' → Chg (fun j => u.ownBlock = some j) w W' := fun i W W' h hR => by
  unfold apR at hR; split at hR
  · exact h.trans hR
  · exact h.later hR
theorem apVL (hu : ∀ k, u.ownBlock = some k → k < w.heap.size) : ∀ i j t W W', i ≠ j → apV p q e sz w u n xs news j t W → apR q u i W W' → apV p q e sz w u n xs news j t W' := fun i j t W W' hij h hR => by
  unfold apV at *
  by_cases hp : j = p
  · rw [if_pos hp] at h ⊢
    refine ⟨h.1, ?_⟩
    unfold apR at hR; split at hR
    · exact h.2.chg hR (fun e => by have := hu _ e; omega)
    · exact h.2.later hR
  · rw [if_neg hp] at h ⊢
    by_cases hq : j = q
    · rw [if_pos hq] at h ⊢
      unfold apR at hR
      rw [if_neg (by omega)] at hR
      exact ⟨hR.own h.1, h.2⟩
    · rw [if_neg hq]; trivial
theorem apNL : ∀ i j W W', i ≠ j → apN q e sz u n xs j W → apR q u i W W' → apN q e sz u n xs j W' := fun i j W W' hij h hR hj => by
  unfold apR at hR
  rw [if_neg (by omega)] at hR
  exact hR.own (h hj)
theorem apLoc : ∀ j (t t' : Nat → Gh) W, t j = t' j → (∀ k, k ∈ gU0 j → t k = t' k) → apV p q e sz w u n xs news j t W → apV p q e sz w u n xs news j t' W := by
  intro j t t' W h _ hV
  unfold apV at *
  split at hV
  · rename_i hp; subst hp; rw [if_pos rfl, ← h]; exact hV
  · rename_i hp
    rw [if_neg hp]
    split at hV
    · rename_i hq; subst hq; rw [if_pos rfl, ← h]; exact hV
    · rename_i hq; rw [if_neg hq]; trivial
/-- what the maker leaves -/
theorem apMake {t : Nat → Gh} {W : World} (hW : w.heap.size ≤ W.heap.size) : apV p q e sz w u n xs news p (upd t p ⟨none, W.heap.size, 0, undef⟩) (W.alloc (.cells news.toArray e)) := by
  unfold apV
  rw [if_pos rfl]
  simp only [upd, if_true]
  exact ⟨hW, Box.new _ _ _⟩
/-- the append -/
theorem apAppend {P : Program} (hpq : p ≠ q) {t : Nat → Gh} {W : World} (hW : w.heap.size ≤ W.heap.size) (o : Oper) (ρ : Operand → Value) (s x : Operand) (ty : TypeId) (z : Value) (bytes : Nat)
    (ho : o.op = .call { callee := .builtin .append, args := #[s, x], argTypes := #[ty, ty] }) (hs : ρ s = u) (hx : ρ x = .slice (some ⟨(t p).n, 0, none⟩) 1 1)
    (ht : P.underlying ty = some (.slice e)) (hinfo : (P.info? e).map (fun i => (i.zero, i.size, i.bytes)) = some (some z, sz, bytes)) (hzs : z.cells.size = sz) (hsz : 0 < sz) (hnl : news.length = sz) (h1 : ∀ v ∈ news, v.oneCell' = true)
    (hn : n + 1 ≤ maxLen) (hbb : (n + 1) * bytes ≤ 140737488355328) (hN : apN q e sz u n xs q W) (hV : apV p q e sz w u n xs news p t W) :
    ∃ g W', (execOp ρ o).run P W = .ok (.value (apF q n q g)) W' ∧ apV p q e sz w u n xs news q (upd t q g) W' ∧ apR q u q W W' := by
  obtain ⟨i, hi, hz, hsize, hby⟩ := info_parts hinfo
  unfold apV at hV
  rw [if_pos rfl] at hV
  obtain ⟨hb3, h3⟩ := hV
  have hcell : ∀ j v, news[j]? = some v → W.cell? ((⟨(t p).n, 0, none⟩ : Addr).add j) = some v := fun j v hv => by
    rw [add_at, Nat.zero_add]; exact h3.cell (by simpa using hv)
  obtain ⟨v', w', hr, q2, q4, q5, q6⟩ := run_append_own_at (P := P) W 0 ty o.type e i z sz bytes ht hi hz hsize hby hzs hsz u n xs (hN rfl) ⟨(t p).n, 0, none⟩ 1 1 news (by rw [hnl, Nat.one_mul]) hcell h1 hn hbb (Nat.zero_le _)
  obtain ⟨A', c', rfl, -, -⟩ := own_slice q2
  refine ⟨⟨A', 0, c', undef⟩, w', ?_, ?_, ?_⟩
  · unfold apF; rw [if_pos rfl]; exact exec_append s x ty ho hs hx hr
  · unfold apV
    rw [if_neg (fun e => hpq e.symm), if_pos rfl]
    simp only [upd, if_true]
    refine ⟨q2, fun k hk => ?_⟩
    rcases q6 with e | e
    · exact .inl (by rw [← e]; exact hk)
    · exact .inr (by rw [hk] at e; cases e; exact hW)
  · unfold apR; rw [if_pos rfl]; exact Chg.of_grown q4 fun k e => e
theorem apGet (hpq : p ≠ q) {t : Nat → Gh} {W : World} (h : apV p q e sz w u n xs news q t W) : W.ownsRow 0 e sz (.slice (t q).A (n + 1) (t q).c) (n + 1) (xs ++ news) ∧ ∀ k, (Value.slice (t q).A (n + 1) (t q).c).ownBlock = some k → u.ownBlock = some k ∨ w.heap.size ≤ k := by
  unfold apV at h
  rwa [if_neg (fun e => hpq e.symm), if_pos rfl] at h
end

/-- what holds of a watcher all the way -/
def WB (N : Nat) (x : WX) (m : MonD) (tk : List E2) : Prop :=
  x.g ≤ 8 ∧ m.bad.length ≤ 16 ∧ arenaOk m.slabs = true ∧ (∀ s ∈ m.slabs, 0 ≤ s.2) ∧ (∀ l ∈ m.has, l.length ≤ N) ∧ tk.length ≤ N
theorem WB.row {N : Nat} {x : WX} {m : MonD} {tk : List E2} (h : WB N x m tk) (i : Nat) : (m.has[i]?.getD []).length ≤ N := by
  cases hx : m.has[i]? with
  | none => simp
  | some r => exact h.2.2.2.2.1 r (List.mem_of_getElem? hx)
theorem WSt.rmon {W : World} {b : Nat} {x : WX} {m : MonD} {tk : List E2} (h : WSt W b x m tk) {N : Nat} (hB : WB N x m tk) : ∃ A3 n3 c3, x.bv = .slice A3 n3 c3 ∧ m.bad.length = n3 ∧ n3 ≤ c3 ∧ c3 ≤ 9223372036854775807 ∧
    RMon (N + 128) W (.agg #[.slice (some ⟨x.D, 0, none⟩) x.n x.n, .slice (some ⟨x.P, 0, none⟩) x.g x.g, .slice (some ⟨x.H, 0, none⟩) x.g x.hc, .slice A3 n3 c3]) m := by
  obtain ⟨A3, c3, e3, h31, h32, h33⟩ := rd_of_own enc_W rfl h.ba
  have hn : x.n ≤ 128 := by have h3 := hB.2.2.1; simp only [arenaOk, Bool.and_eq_true, decide_eq_true_eq] at h3; rw [← h.sn]; exact h3.2.1
  have hcap : x.g ≤ x.hc ∧ x.hc ≤ 9223372036854775807 := by obtain ⟨_, _, e, h1, h2⟩ := own_slice h.ha; cases e; unfold maxLen at h2; omega
  unfold maxLen at h32
  refine ⟨A3, _, c3, e3, rfl, h31, by omega, _, _, _, _, _, _, _, _, _, _, _, _, rfl, ?_, h.rdP, ?_, h33, ⟨by omega, by have := hB.1; omega, by have := hB.1; omega, by have := hB.2.1; omega, fun l hl => by have := hB.2.2.2.2.1 l hl; omega⟩, ⟨Nat.le_refl _, by omega, Nat.le_refl _, by have := hB.1; omega, hcap.1, hcap.2, h31, by omega⟩⟩
  · have := h.sl.rd enc_E; rwa [h.sn] at this
  · refine ⟨h.hn, fun _ => ⟨x.H, 0, rfl, fun k r hk => ?_⟩⟩
    have hkg : k < x.g := by rw [← h.hn]; exact (List.getElem?_eq_some_iff.1 hk).1
    obtain ⟨A, n, c, h1, h2, h3⟩ := h.ro k hkg
    rw [hk, Option.getD_some] at h2 h3
    obtain ⟨_, _, e, h4, h5, h6⟩ := rd_of_own enc_E h3 h2
    cases e
    unfold maxLen at h5
    exact ⟨A, n, c, by rw [Nat.zero_add]; exact h.hasCell h1, h4, by omega, h6⟩
end Go.Proofs.Ytdheckfndldbmaa
