/- The arena's hand: the iterator over the free ones. | The arena's hand: take. | The arena's hand: slab; the deferred closure. | The arena's tries. -/
import Derived.Test.YtdheckfndldbmaaM07
import Derived.Recover
namespace Go.Proofs.Ytdheckfndldbmaa
open Go.RowKit
attribute [local go_sem] merge_t merge_f merge_a merge_o
attribute [local go_sem] Oper.semAt_some

/-- the entries of a tag among the first k -/
def tagN (xs : List E2) (t : Int) (k : Nat) : List E2 := ((List.range k).filter fun i : Nat => decide ((xs[i]?.getD (0, 0)).1 = t)).map fun i : Nat => ((i : Int), (xs[i]?.getD (0, 0)).2)
theorem tagN_len (xs : List E2) (t : Int) (k : Nat) : (tagN xs t k).length ≤ k := by
  unfold tagN; rw [List.length_map]; exact Nat.le_trans (List.length_filter_le _ _) (by simp)
theorem tagN_yes {xs : List E2} {t : Int} {k : Nat} (h : decide ((xs[k]?.getD (0, 0)).1 = t) = true) : tagN xs t (k + 1) = tagN xs t k ++ [((k : Int), (xs[k]?.getD (0, 0)).2)] := by
  unfold tagN; rw [List.range_succ, List.filter_append]; simp only [List.filter_cons, h, if_true, List.filter_nil, List.map_append, List.map_cons, List.map_nil]
theorem tagN_no {xs : List E2} {t : Int} {k : Nat} (h : decide ((xs[k]?.getD (0, 0)).1 = t) = false) : tagN xs t (k + 1) = tagN xs t k := by
  unfold tagN; rw [List.range_succ, List.filter_append]; simp only [List.filter_cons, h, List.filter_nil, Bool.false_eq_true, if_false, List.append_nil]
theorem tagN_prefix (xs : List E2) (t : Int) (k : Nat) : ∀ n : Nat, k ≤ n → tagN xs t k <+: tagN xs t n
  | 0, h => by obtain rfl : k = 0 := by omega
               exact List.prefix_refl _
  | n + 1, h => by
    by_cases hk : k = n + 1
    · subst hk; exact List.prefix_refl _
    · refine (tagN_prefix xs t k n (by omega)).trans ?_
      cases hh : decide ((xs[n]?.getD (0, 0)).1 = t) with
      | true => rw [tagN_yes hh]; exact List.prefix_append _ _
      | false => rw [tagN_no hh]; exact List.prefix_refl _

def encs2 (x : E2) : Array Value := #[.agg #[.int .i64 x.1, .int .u64 x.2]]

set_option maxRecDepth 100000 in
set_option maxHeartbeats 2000000 in
theorem tagged_stops (n b2 b3 : Nat) (A : Option Addr) (na ca : Nat) (xs : List E2) (t : Int) (w0 w : World) (hn : na ≤ 1000000) (hR : Rd 2 encE w0 A na xs)
    (hK : Kept2 w0 b2 b3 (.cells #[.slice A na ca] 27 (0, 0)) (.cells #[.int .i64 t] 3 (0, 0)) w) :
    SeqStopsK Fence.wide n Try.prog 96 #[.pointer (some ⟨b2, 0, none⟩), .pointer (some ⟨b3, 0, none⟩)] encs2 (KpOf (Kept2 w0 b2 b3 (.cells #[.slice A na ca] 27 (0, 0)) (.cells #[.int .i64 t] 3 (0, 0))))
      (fun l => l = tagN xs t na) (fun pre => pre ≠ [] ∧ pre <+: tagN xs t na) na w := by
  intro l J Jx W hW hJ hJx hY h0
  have HR : Hid (Rd 2 encE w0 A na xs) := hR
  have Hx : Hid (xs.length = na) := hR.1
  have HY := hY
  have hKW := hK.later hW
  have a2 := heap_cell hKW.2.1 (i := 0) rfl
  clear hR hY hW hK
  refine callsIn_of_wp Try.func96 rfl trivial ?_ rfl
  simp only [Try.ntmps96, List.size_toArray, List.length_cons, List.length_nil, Nat.reduceAdd, Nat.reduceSub, Array.replicate_succ, Array.replicate_zero, List.push_toArray, List.append_toArray, List.nil_append, List.cons_append]
  have HK := Lib.hid hKW
  clear hKW
  gi_wp2
  gi_loopw [9] (fun i wr => ∃ k : Nat, k ≤ na ∧ i = .int .i64 k ∧ Kept2 w0 b2 b3 (.cells #[.slice A na ca] 27 (0, 0)) (.cells #[.int .i64 t] 3 (0, 0)) wr ∧ J (tagN xs t k) wr) (fun i _ => na - (intOf i).toNat)
  case atStart => exact ⟨0, Nat.zero_le _, rfl, HK.out, h0⟩
  case round =>
    obtain ⟨k, hk, rfl, hKr, hJr⟩ := hrel
    have e0 : ∀ W, Later wr W → W.cell? ⟨b3, 0, none⟩ = some (.int .i64 t) := cel (heap_cell hKr.2.2 (i := 0) rfl)
    have hL0 := hKr.1
    have HKr := Lib.hid hKr
    clear hKr
    by_cases hlt : k < na
    · obtain ⟨b, off, rfl, s0, s1⟩ := HR.out.atE k hlt
      generalize hX : xs[k]?.getD (0, 0) = x at s0 s1
      have HX := Lib.hid hX
      have z0 := celw hL0 s0
      have z1 := celw hL0 s1
      clear hX s0 s1
      cases hh : decide (x.1 = t) with
      | false =>
        have HH : Hid (decide ((xs[k]?.getD (0, 0)).1 = t) = false) := by rw [HX.out]; exact hh
        have hbq : (x.1 == t) = false := by rw [beqd]; exact hh
        clear hh
        have hne : ¬ x.1 = t := by simpa using hbq
        gi_wp2
        refine ⟨fun _ h => (by cases h), ?_⟩
        gi_wp2
        go_roundw
        case rel => exact ⟨k + 1, by omega, by go_num, HKr.out.later (by go_simp), by rw [tagN_no HH.out]; exact hJ _ _ _ none hJr ((show Later wr _ by go_simp).grownBy none) (fun r e => by cases e)⟩
        case measure => simp [intOf]; omega
      | true =>
        have HH : Hid (decide ((xs[k]?.getD (0, 0)).1 = t) = true) := by rw [HX.out]; exact hh
        have hbq : (x.1 == t) = true := by rw [beqd]; exact hh
        have hne : x.1 = t := by simpa using hh
        clear hh
        subst hne
        have hJ1 : J (tagN xs x.1 k) (wr.alloc (.cells #[.int .i64 x.1, .int .u64 x.2] 47)) := hJ _ _ _ none hJr (World.grownBy_alloc _ _ _) (fun r e => by cases e)
        obtain ⟨fn, tmps, assign, body, hy, hR⟩ := HY _ ((k : Int), x.2) _ hJ1 (Nat.lt_of_le_of_lt (tagN_len _ _ _) hlt)
        dsimp only [encs2] at hy
        gi_wp2
        refine ⟨fun h => (by cases h), hR.mono ?_⟩
        rintro e W3 (⟨rfl, hJ3, hk3⟩ | ⟨rfl, hJx3⟩)
        · have hK3 := hk3 (HKr.out.later ((Later.refl _).alloc _))
          have HK3 := Lib.hid hK3
          clear hK3 hk3
          gi_wp2
          go_roundw
          case rel => exact ⟨k + 1, by omega, by go_num, HK3.out, by rw [tagN_yes HH.out, HX.out]; exact hJ3⟩
          case measure => simp [intOf]; omega
        · have hp : tagN xs x.1 k ++ [((k : Int), x.2)] <+: tagN xs x.1 na := by have := tagN_yes HH.out; rw [HX.out] at this; rw [← this]; exact tagN_prefix _ _ _ _ (by omega)
          gi_wp2
          refine bodyPost_ret (results_none rfl _ _ _) rfl ?_
          exact ⟨⟨_, rfl⟩, .inr ⟨_, ⟨by simp, hp⟩, hJx3⟩⟩
    · gi_wp2
      refine bodyPost_end (results_none rfl _ _ _) rfl ?_
      exact ⟨⟨_, rfl⟩, .inl ⟨_, by rw [show na = k by omega], hJr⟩⟩
end Go.Proofs.Ytdheckfndldbmaa

namespace Go.Proofs.Ytdheckfndldbmaa
open Go.RowKit
attribute [local go_sem] merge_t merge_f merge_a merge_o
attribute [local go_sem] Oper.semAt_some

/-! ### no ghosts: a region of loads ahead of a tail -/
def gF0 (_ : Nat) (_ : Gh) : Value := undef
def gV0 (_ : Nat) (_ : Nat → Gh) (_ : World) : Prop := True
def gE0 (_ : Nat) : Bool := false
def gU0 (_ : Nat) : List Nat := []
theorem gL0 : ∀ j t W W', gV0 j t W → Later W W' → gV0 j t W' := fun _ _ _ _ _ _ => trivial
theorem gO0 : ∀ j (t t' : Nat → Gh) W, t j = t' j → (∀ k, k ∈ gU0 j → t k = t' k) → gV0 j t W → gV0 j t' W := fun _ _ _ _ _ _ _ => trivial

/-- calls whose values are known: by place -/
def cF (l : List (Nat × Value)) (k : Nat) (_ : Gh) : Value := ((l.find? fun p => p.1 == k).map (·.2)).getD undef
def cE (l : List (Nat × Value)) (k : Nat) : Bool := l.any fun p => p.1 == k
theorem known {P : Program} {f : FuncId} {args : Array Value} {w : World} {v : Value} (h : Calls P f args w fun r w' => r = .returned v ∧ Later w w') (k : Nat) (t : Nat → Gh) (l : List (Nat × Value)) (hv : ∀ s, cF l k s = v) :
    Calls P f args w fun e W' => ∃ s, e = .returned (cF l k s) ∧ gV0 k (upd t k s) W' ∧ Later w W' := h.mono fun _ _ ⟨e, hL⟩ => ⟨default, by rw [hv]; exact e, trivial, hL⟩

/-! ### a row that is written -/
theorem flat_ext {xs : List E2} {l : List Value} (hl : l.length = xs.length * 2) (h : ∀ k j, j < 2 → k < xs.length → l[k * 2 + j]? = (xs[k]?).bind fun x => (encE x)[j]?) : l = flat encE xs := by
  have hf := flat_len enc_E xs
  apply List.ext_getElem?
  intro q
  by_cases hq : q < l.length
  · have hk : q / 2 < xs.length := by omega
    have hj : q % 2 < 2 := Nat.mod_lt _ (by omega)
    have he : q / 2 * 2 + q % 2 = q := by omega
    have h1 := h (q / 2) (q % 2) hj hk
    have h2 := flat_at enc_E xs (q / 2) (q % 2) hj
    rw [he] at h1 h2
    rw [h1, h2]
  · rw [List.getElem?_eq_none (by omega), List.getElem?_eq_none (by omega)]
theorem set_flat1 (xs : List E2) (i : Nat) (hi : i < xs.length) (t : Int) : (flat encE xs).toArray.setIfInBounds (i * 2) (.int .i64 t) = (flat encE (xs.set i (t, (xs[i]?.getD (0, 0)).2))).toArray := by
  rw [List.setIfInBounds_toArray]
  congr 1
  refine flat_ext (by rw [List.length_set, flat_len enc_E, List.length_set]) fun k j hj hk => ?_
  rw [List.length_set] at hk
  rw [List.getElem?_set, flat_at enc_E xs k j hj, List.getElem?_set, flat_len enc_E]
  by_cases hki : k = i
  · subst hki
    rw [if_pos rfl, if_pos hk]
    have hx : xs[k]? = some (xs[k]?.getD (0, 0)) := by rw [List.getElem?_eq_getElem hk]; rfl
    rw [hx]
    rcases Nat.lt_or_ge j 1 with h | h
    · obtain rfl : j = 0 := by omega
      rw [if_pos (by omega), if_pos (by omega)]; rfl
    · obtain rfl : j = 1 := by omega
      rw [if_neg (by omega)]; rfl
  · rw [if_neg (by omega), if_neg (fun e => hki e.symm)]
theorem set_flat2 (xs : List E2) (i : Nat) (hi : i < xs.length) (g : Int) : (flat encE xs).toArray.setIfInBounds (i * 2 + 1) (.int .u64 g) = (flat encE (xs.set i ((xs[i]?.getD (0, 0)).1, g))).toArray := by
  rw [List.setIfInBounds_toArray]
  congr 1
  refine flat_ext (by rw [List.length_set, flat_len enc_E, List.length_set]) fun k j hj hk => ?_
  rw [List.length_set] at hk
  rw [List.getElem?_set, flat_at enc_E xs k j hj, List.getElem?_set, flat_len enc_E]
  by_cases hki : k = i
  · subst hki
    rw [if_pos rfl, if_pos hk]
    have hx : xs[k]? = some (xs[k]?.getD (0, 0)) := by rw [List.getElem?_eq_getElem hk]; rfl
    rw [hx]
    rcases Nat.lt_or_ge j 1 with h | h
    · obtain rfl : j = 0 := by omega
      rw [if_neg (by omega)]; rfl
    · obtain rfl : j = 1 := by omega
      rw [if_pos rfl, if_pos (by omega)]; rfl
  · rw [if_neg (by omega), if_neg (fun e => hki e.symm)]

/-- a hand of an arena, in memory of its own: the hand's box, its slabs' block -/
def HandAt (W : World) (hb D n : Nat) (xs : List E2) : Prop :=
  Box W hb #[.slice (some ⟨D, 0, none⟩) n n] 115 ∧ Box W D (flat encE xs).toArray 47 ∧ xs.length = n ∧ n ≤ 1000000
theorem Box.ne {W : World} {g g' : Nat} {cs cs' : Array Value} {t t' : TypeId} (h : Box W g cs t) (h' : Box W g' cs' t') (ht : t ≠ t') : g ≠ g' := by
  rintro rfl
  have := h.symm.trans h'
  simp at this
  exact ht this.2
theorem HandAt.ne {W : World} {hb D n : Nat} {xs : List E2} (h : HandAt W hb D n xs) : hb ≠ D := h.1.ne h.2.1 (by decide)
theorem HandAt.later {W W' : World} {hb D n : Nat} {xs : List E2} (h : HandAt W hb D n xs) (hL : Later W W') : HandAt W' hb D n xs := ⟨h.1.later hL, h.2.1.later hL, h.2.2⟩
theorem HandAt.chg {S : Nat → Prop} {W W' : World} {hb D n : Nat} {xs : List E2} (h : HandAt W hb D n xs) (hL : Chg S W W') (h1 : ¬ S hb) (h2 : ¬ S D) : HandAt W' hb D n xs := ⟨h.1.chg hL h1, h.2.1.chg hL h2, h.2.2⟩
theorem HandAt.rd {W : World} {hb D n : Nat} {xs : List E2} (h : HandAt W hb D n xs) : Rd 2 encE W (some ⟨D, 0, none⟩) n xs := by
  refine ⟨h.2.2.1, fun _ => ⟨D, 0, rfl, fun k x hx j v hv => ?_⟩⟩
  have hj : j < 2 := by
    have := (List.getElem?_eq_some_iff.1 hv).1
    simpa [encE] using this
  refine h.2.1.cell ?_
  have := flat_at enc_E xs k j hj
  rw [hx, Option.bind_some, hv] at this
  simpa using this
theorem HandAt.set1 {W : World} {hb D n : Nat} {xs : List E2} (h : HandAt W hb D n xs) {i : Nat} (hi : i < n) (t : Int) : HandAt (W.setCell ⟨D, i * 2, none⟩ (.int .i64 t)) hb D n (xs.set i (t, (xs[i]?.getD (0, 0)).2)) :=
  ⟨h.1.set_other h.ne _ _, by have := h.2.1.set (i * 2) (.int .i64 t); rwa [set_flat1 _ _ (by rw [h.2.2.1]; exact hi)] at this, by rw [List.length_set]; exact h.2.2.1, h.2.2.2⟩
theorem HandAt.set2 {W : World} {hb D n : Nat} {xs : List E2} (h : HandAt W hb D n xs) {i : Nat} (hi : i < n) (g : Int) : HandAt (W.setCell ⟨D, i * 2 + 1, none⟩ (.int .u64 g)) hb D n (xs.set i ((xs[i]?.getD (0, 0)).1, g)) :=
  ⟨h.1.set_other h.ne _ _, by have := h.2.1.set (i * 2 + 1) (.int .u64 g); rwa [set_flat2 _ _ (by rw [h.2.2.1]; exact hi)] at this, by rw [List.length_set]; exact h.2.2.1, h.2.2.2⟩

/-- the least free slab -/
def freeD (xs : List E2) : Option Nat := (List.range xs.length).find? fun i => decide ((xs[i]?.getD (0, 0)).1 = 0)
theorem tagN_head (xs : List E2) : (tagN xs 0 xs.length).head? = (freeD xs).map fun i : Nat => ((i : Int), (xs[i]?.getD (0, 0)).2) := by
  unfold tagN freeD; rw [List.head?_map, List.head?_filter]
theorem free_none {xs : List E2} {n : Nat} (hn : xs.length = n) (h : [] = tagN xs 0 n) : freeD xs = none := by
  subst hn
  have := tagN_head xs
  rw [← h] at this
  simpa using this.symm
theorem free_some {xs : List E2} {n : Nat} (hn : xs.length = n) {x : E2} (h : [x] <+: tagN xs 0 n) : ∃ i, freeD xs = some i ∧ i < n ∧ x = ((i : Int), (xs[i]?.getD (0, 0)).2) := by
  subst hn
  have := tagN_head xs
  obtain ⟨t, ht⟩ := h
  rw [← ht] at this
  cases hf : freeD xs with
  | none => rw [hf] at this; simp at this
  | some i =>
    rw [hf] at this
    have hm := List.mem_of_find?_eq_some hf
    exact ⟨i, rfl, List.mem_range.1 hm, by simpa using this⟩

set_option maxHeartbeats 400000 in
theorem tagged95_c (x0 : Value) (t : Int) (w : World) :
    Calls Try.prog 95 #[.agg #[x0], .int .i64 t] w fun r w' => r = .returned (.func (.func 96) #[] #[.pointer (some ⟨w.heap.size, 0, none⟩), .pointer (some ⟨w.heap.size + 1, 0, none⟩)]) ∧
      w' = (w.alloc (.cells #[x0] 27)).alloc (.cells #[.int .i64 t] 3) := by
  go_enter Try.func95, Try.ntmps95
  go_wp2
  go_ret
  exact ⟨rfl, rfl⟩
theorem cf_tagged (args : Array Value) (W : World) : (callFunc 96 args).run Try.prog W = .ok (.enter 96 args) W := by go_simp

/-- what taking one comes to -/
def TakeP (hb D n : Nat) (xs : List E2) (w : World) (r : Ending) (w' : World) : Prop :=
  match freeD xs with
  | none => r = .panicked (errChain 6) ∧ Later w w'
  | some i => r = .returned (.agg #[.int .i64 (i : Int), .int .u64 (xs[i]?.getD (0, 0)).2]) ∧ i < n ∧ HandAt w' hb D n (xs.set i (1, (xs[i]?.getD (0, 0)).2)) ∧ Chg (fun k => k = D) w w'

set_option maxRecDepth 100000 in
set_option maxHeartbeats 4000000 in
theorem htake_c (hb D n : Nat) (xs : List E2) (w : World) (hH : HandAt w hb D n xs) :
    Calls Try.prog 90 #[.pointer (some ⟨hb, 0, none⟩)] w (TakeP hb D n xs w) := by
  have h0 : ∀ W, Later w W → W.cell? ⟨hb, 0, none⟩ = some (.slice (some ⟨D, 0, none⟩) n n) := cel (hH.1.cell (i := 0) rfl)
  have hn := hH.2.2.2
  have HH : Hid (HandAt w hb D n xs) := hH
  have HR : Hid (Rd 2 encE w (some ⟨D, 0, none⟩) n xs) := hH.rd
  have Hx : Hid (xs.length = n) := hH.2.2.1
  clear hH
  refine (callsIn_wide (n := 9)).1 ?_
  refine callsIn_of_wp_marks Try.func90 rfl trivial ?_ rfl
  refine wpIn_wide.2 ?_
  simp only [Try.ntmps90, List.size_toArray, List.length_cons, List.length_nil, Nat.reduceAdd, Nat.reduceSub, Array.replicate_succ, Array.replicate_zero, List.push_toArray, List.append_toArray, List.nil_append, List.cons_append]
  obtain ⟨w3, hw3⟩ : ∃ w3, Hid (((w.alloc (.cells #[.int .i64 0, .int .u64 0] 43)).alloc (.cells #[.int .i64 0, .int .u64 0] 43)).alloc (.cells #[.bool false] 4) = w3) := ⟨_, rfl⟩
  have hL3 : Later w w3 := by rw [← hw3.out]; exact (((Later.refl _).alloc _).alloc _).alloc _
  have hz3 : w3.heap.size = w.heap.size + 3 := by rw [← hw3.out]; simp
  have bR : Box w3 w.heap.size #[.int .i64 0, .int .u64 0] 43 := by rw [← hw3.out]; exact ((Box.new _ _ _).alloc _).alloc _
  have bO : Box w3 (w.heap.size + 1) #[.int .i64 0, .int .u64 0] 43 := by
    rw [← hw3.out]; have := Box.new (w.alloc (.cells #[.int .i64 0, .int .u64 0] 43)) #[.int .i64 0, .int .u64 0] 43
    rw [World.size_alloc] at this; exact this.alloc _
  have bF : Box w3 (w.heap.size + 1 + 1) #[.bool false] 4 := by
    rw [← hw3.out]; have := Box.new ((w.alloc (.cells #[.int .i64 0, .int .u64 0] 43)).alloc (.cells #[.int .i64 0, .int .u64 0] 43)) #[.bool false] 4
    simpa only [World.size_alloc] using this
  have BR := Lib.hid bR
  have BO := Lib.hid bO
  have BF := Lib.hid bF
  have Hz3 := Lib.hid hz3
  clear bR bO bF hz3
  go_wp2
  go_step3
  go_wp2
  go_step3
  rw [hw3.out]
  clear hw3
  go_wp2_with fail
  refine (tagged95_c _ _ _).mono ?_
  rintro e w5 ⟨rfl, hw5⟩
  have bM : Box w5 w3.heap.size #[.slice (some ⟨D, 0, none⟩) n n] 27 := by rw [hw5]; exact (Box.new _ _ _).alloc _
  have bE : Box w5 (w3.heap.size + 1) #[.int .i64 0] 3 := by
    rw [hw5]; have := Box.new (w3.alloc (.cells #[.slice (some ⟨D, 0, none⟩) n n] 27)) #[.int .i64 0] 3
    simpa only [World.size_alloc] using this
  have hL5 : Later w3 w5 := by rw [hw5]; exact (((Later.refl _).alloc _).alloc _)
  have hz5 : w5.heap.size = w3.heap.size + 2 := by rw [hw5]; simp
  have Hz5 := Lib.hid hz5
  clear hw5 hz5
  have bR5 := BR.out.later hL5
  have bO5 := BO.out.later hL5
  have bF5 := BF.out.later hL5
  have hL05 : Later w w5 := hL3.trans hL5
  have hz : w3.heap.size = w.heap.size + 3 ∧ w5.heap.size = w3.heap.size + 2 := ⟨Hz3.out, Hz5.out⟩
  have HZ := Lib.hid hz
  clear hz
  go_wp2_with fail
  refine wpIn_wide.1 (wpIn_rangeFunc_ownH (n := 9) rfl (by omega) (gf := 96) (lb := #[.pointer (some ⟨w3.heap.size, 0, none⟩), .pointer (some ⟨w3.heap.size + 1, 0, none⟩)]) rfl trivial cf_tagged
    (tagged_stops _ w3.heap.size (w3.heap.size + 1) (some ⟨D, 0, none⟩) n n xs 0 w w5 (by omega) HR.out ⟨hL05, bM, bE⟩) (fun h k => KpOf.tr h k) (kept2_turn hL05.sz (by have := HZ.out; omega) (by have := HZ.out; omega)) (Below.refl _ _) (fun _ => rfl)
    (fun pre W => (pre = [] ∧ Box W w.heap.size #[.int .i64 0, .int .u64 0] 43 ∧ Box W (w.heap.size + 1) #[.int .i64 0, .int .u64 0] 43 ∧ Box W (w.heap.size + 1 + 1) #[.bool false] 4) ∧ Below w.heap.size w W)
    (fun c pre W => (c = .exit 0 ∧ ∃ x : E2, pre = [x] ∧ Box W w.heap.size #[.int .i64 0, .int .u64 0] 43 ∧ Box W (w.heap.size + 1) #[.int .i64 x.1, .int .u64 x.2] 43 ∧ Box W (w.heap.size + 1 + 1) #[.bool true] 4) ∧ Below w.heap.size w W)
    (OwnFrom.and (Own.from (fun s A B row hs hg hr => ⟨hs.1, Box.turned hs.2.1 hg hr, Box.turned hs.2.2.1 hg hr, Box.turned hs.2.2.2 hg hr⟩) _) (ownFrom_below (Nat.le_refl _) hL05.sz))
    (fun c => OwnFrom.and (Own.from (fun s A B row hs hg hr => ⟨hs.1, let ⟨x, h1, h2, h3, h4⟩ := hs.2; ⟨x, h1, Box.turned h2 hg hr, Box.turned h3 hg hr, Box.turned h4 hg hr⟩⟩) _) (ownFrom_below (Nat.le_refl _) hL05.sz))
    ⟨⟨rfl, bR5, bO5, bF5⟩, hL05⟩
    (fun x a' W => ∃ bx, Box W bx #[.int .i64 x.1, .int .u64 x.2] 43 ∧ a' = { tmps := #[.pointer (some ⟨hb, 0, none⟩), undef, .pointer (some ⟨w.heap.size, 0, none⟩), .pointer (some ⟨w.heap.size + 1, 0, none⟩), .pointer (some ⟨w.heap.size + 1 + 1, 0, none⟩), .pointer (some ⟨bx, 0, none⟩),
        .agg #[.int .i64 0, .int .u64 0], .pointer (some ⟨hb, 0, none⟩), .pointer (some ⟨hb, 0, none⟩), .pointer (some ⟨hb, 0, none⟩), .agg #[.slice (some ⟨D, 0, none⟩) n n], .func (.func 96) #[] #[.pointer (some ⟨w3.heap.size, 0, none⟩), .pointer (some ⟨w3.heap.size + 1, 0, none⟩)],
        .agg #[.int .i64 x.1, .int .u64 x.2], undef, undef, undef, undef, undef, undef, undef, undef, undef, undef, undef, undef, undef], defers := [] })
    (fun x a' s A B row hs hg hr => let ⟨bx, h2, h3⟩ := hs; ⟨bx, Box.turned h2 hg (fun r e => (hr r e).2), h3⟩)
    ?assign ?body ?done ?stop)
  case assign =>
    rintro l pre x W K ⟨⟨hp, g1, g2, g3⟩, hB1⟩ hK
    dsimp only [encs2]
    gi_wp2
    exact hK _ _ ((KeepsOthers.alloc _ _).from _) (fun k => k.later ((Later.refl _).alloc _)) ⟨⟨hp, g1.alloc _, g2.alloc _, g3.alloc _⟩, Below.alloc hB1 hB1.size _⟩ ⟨W.heap.size, Box.new _ _ _, rfl⟩
  case body =>
    rintro l pre x a' W hl - ⟨⟨rfl, g1, g2, g3⟩, hB1⟩ ⟨bx, g4, rfl⟩ hlt
    have c1 := g4.cell (i := 0) rfl
    have c2 := g4.cell (i := 1) rfl
    have d1 := g2.cell (i := 0) rfl
    have d2 := g2.cell (i := 1) rfl
    have d3 := g3.cell (i := 0) rfl
    have f2 := g2.frozen
    have f3 := g3.frozen
    gi_wp2
    refine ⟨(((KeepsOthers.setCell _ _ _).trans (KeepsOthers.setCell _ _ _)).trans (KeepsOthers.setCell _ _ _)).from _, ⟨rfl, x, rfl, ?_, ?_, ?_⟩, ?_⟩
    · exact ((g1.set_other (by omega) _ _).set_other (by omega) _ _).set_other (by omega) _ _
    · have := ((g2.set 0 (.int .i64 x.1)).set 1 (.int .u64 x.2)).set_other (g' := w.heap.size + 1 + 1) (by omega) 0 (.bool true)
      simpa using this
    · have := ((g3.set_other (g' := w.heap.size + 1) (by omega) 0 (.int .i64 x.1)).set_other (g' := w.heap.size + 1) (by omega) 1 (.int .u64 x.2)).set 0 (.bool true)
      simpa using this
    · exact (((show Later w W from hB1).set (by omega) _).set (by omega) _).set (by omega) _
  case done =>
    rintro D1 ys W hD hys ⟨⟨rfl, g1, g2, g3⟩, hB1⟩ hK
    have hLW : Later w W := hB1
    have d3 := g3.cell (i := 0) rfl
    have hF := free_none Hx.out hys
    go_wp2_with (go_at_call 89; (with_reducible refine (aneed_no _ _).mono ?_); rintro e w9 ⟨rfl, rfl⟩)
    refine ⟨by simp, .inl ⟨_, _, rfl, run_takeDeferred hK, ?_⟩⟩
    show TakeP _ _ _ _ _ _ _
    unfold TakeP
    rw [hF]
    exact ⟨rfl, Below.trans hLW (belowK_b (w := w5) hL05.sz W D1 _ _ (by omega) hK rfl rfl)⟩
  case stop =>
    rintro D1 c pre Wa hD ⟨hne, hpre⟩ ⟨⟨rfl, x, rfl, g1, g2, g3⟩, hB1⟩ hK
    refine wpIn_wide.2 ?_
    obtain ⟨i, hF, hi, rfl⟩ := free_some Hx.out hpre
    have hLW : Later w Wa := hB1
    generalize hgn : (xs[i]?.getD (0, 0)).2 = gn at g2
    have d1 : ∀ V, Later Wa V → V.cell? ⟨w.heap.size + 1, 0, none⟩ = some (.int .i64 (i : Int)) := cel (g2.cell (i := 0) rfl)
    have d2 : ∀ V, Later Wa V → V.cell? ⟨w.heap.size + 1, 1, none⟩ = some (.int .u64 gn) := cel (g2.cell (i := 1) rfl)
    have d3 := g3.cell (i := 0) rfl
    have h0W := celw hLW h0
    have HF := Lib.hid hF
    have HGN := Lib.hid hgn
    have HW := HH.out.later hLW
    have HHW := Lib.hid HW
    have HK := Lib.hid hK
    clear hF hgn HW hK hne hpre
    go_wp2_with (go_at_call 89; (with_reducible refine (aneed_yes _ _).mono ?_); rintro e w9 ⟨rfl, rfl⟩)
    refine region_ghost (S := Later Wa) (af := ?_) 9 gF0 gV0 gE0 gU0 (by kernel_rfl) (by kernel_rfl) (by kernel_rfl) (by decide) (by kernel_rfl) (fun _ h => h.drew) (Later.refl _) (fun _ _ h h2 => h.trans h2) gL0 gO0 ?_ ?_
    rotate_left
    · intro t
      repeat (first
        | (refine SeqT.val (v := ?_) (by rfl) (by rfl) (fun W hW => ?_) ?_; rotate_left; (· (go_simp; try with_reducible rfl)); try simp only [Act.put, List.setIfInBounds_toArray, List.set_cons_zero, List.set_cons_succ])
        | (refine SeqT.skip (by rfl) (by rfl) ?_; try simp only [Act.put, List.setIfInBounds_toArray, List.set_cons_zero, List.set_cons_succ])
        )
      exact SeqT.nil _
    intro t W hW hV
    refine wpList_is (l' := [_]) rfl ?_
    clear hV
    have HV := HHW.out.later hW
    have s0 := HV.rd.atE i hi
    obtain ⟨_, _, e0, s0, -⟩ := s0
    cases e0
    have s0 := s0 _ (Later.refl _)
    rw [Nat.zero_add] at s0
    have f0 := HV.2.1.frozen (i * 2)
    have hDlt : D < w.heap.size := HH.out.2.1.lt
    obtain ⟨Ws, hWs⟩ : ∃ Ws, W.setCell ⟨D, i * 2, none⟩ (.int .i64 1) = Ws := ⟨_, rfl⟩
    have HS : Hid (HandAt Ws hb D n (xs.set i (1, gn))) := by
      have := HV.set1 hi 1
      rwa [hWs, HGN.out] at this
    have hC : Chg (fun k => k = D) w Ws := by rw [← hWs]; exact Chg.set (S := fun k => k = D) (Chg.of_later (hLW.trans hW)) rfl _
    have r1 : Box Ws w.heap.size #[.int .i64 0, .int .u64 0] 43 := by rw [← hWs]; exact (g1.later hW).set_other (by omega) _ _
    have r2 : Box Ws (w.heap.size + 1) #[.int .i64 i, .int .u64 gn] 43 := by rw [← hWs]; exact (g2.later hW).set_other (by omega) _ _
    have q0 := r2.cell (i := 0) rfl
    have q1 := r2.cell (i := 1) rfl
    have p0 := r1.cell (i := 0) rfl
    have p1 := r1.cell (i := 1) rfl
    have pf := r1.frozen
    have HC := Lib.hid hC
    have HR1 := Lib.hid r1
    have hKs : Ws.heap[D1]? = some (.deferred (some [])) := by rw [← hWs, heap_setCell_other _ _ _ _ (by have := HZ.out; simp only; omega)]; exact hW.heap HK.out
    have HKS := Lib.hid hKs
    clear HV hC r1 r2 hKs
    go_wp2
    rw [Exit.noGoto_ret]
    have HR2 : Box ((Ws.setCell ⟨w.heap.size, 0, none⟩ (.int .i64 i)).setCell ⟨w.heap.size, 1, none⟩ (.int .u64 gn)) w.heap.size #[.int .i64 i, .int .u64 gn] 43 := by
      have := (HR1.out.set 0 (.int .i64 i)).set 1 (.int .u64 gn); simpa using this
    have hC2 : Chg (fun k => k = D) w ((Ws.setCell ⟨w.heap.size, 0, none⟩ (.int .i64 i)).setCell ⟨w.heap.size, 1, none⟩ (.int .u64 gn)) := (HC.out.setNew (Nat.le_refl _) _).setNew (Nat.le_refl _) _
    have hK2 : ((Ws.setCell ⟨w.heap.size, 0, none⟩ (.int .i64 i)).setCell ⟨w.heap.size, 1, none⟩ (.int .u64 gn)).heap[D1]? = some (.deferred (some [])) := by
      rw [heap_setCell_other _ _ _ _ (by have := HZ.out; simp only; omega), heap_setCell_other _ _ _ _ (by have := HZ.out; simp only; omega)]; exact HKS.out
    have HS2 : HandAt ((Ws.setCell ⟨w.heap.size, 0, none⟩ (.int .i64 i)).setCell ⟨w.heap.size, 1, none⟩ (.int .u64 gn)) hb D n (xs.set i (1, gn)) :=
      HS.out.chg (S := fun k => k = w.heap.size) (Chg.set (S := fun k => k = w.heap.size) (Chg.set (S := fun k => k = w.heap.size) (Chg.refl _ _) rfl _) rfl _) (by have := HH.out.1.lt; omega) (by omega)
    generalize (Ws.setCell ⟨w.heap.size, 0, none⟩ (.int .i64 i)).setCell ⟨w.heap.size, 1, none⟩ (.int .u64 gn) = We at *
    refine ⟨by simp, .inl ⟨_, _, rfl, run_takeDeferred hK2, ?_⟩⟩
    have hg := grownBy_putObj' We D1 (.deferred none)
    have hr : ∀ r, some D1 = some r → ∃ o : Obj, We.heap[r]? = some o ∧ o.isCells = false := fun r e => by cases e; exact ⟨_, hK2, rfl⟩
    have hB := Box.turned HR2 hg hr
    have b0 := hB.cell (i := 0) rfl
    have b1 := hB.cell (i := 1) rfl
    refine ⟨.agg #[.int .i64 i, .int .u64 gn], by rw [results_cell1 rfl]; go_simp, ?_⟩
    unfold TakeP
    rw [HF.out]
    refine ⟨by simp only [HGN.out], hi, by simp only [HGN.out]; exact ⟨HS2.1.turned hg hr, HS2.2.1.turned hg hr, HS2.2.2⟩, ?_⟩
    refine hC2.trans' (Chg.of_grown (S := fun k => k = D1) hg fun k e => by cases e; rfl) fun k h1 h2 => ?_
    have := HZ.out; omega
end Go.Proofs.Ytdheckfndldbmaa

namespace Go.Proofs.Ytdheckfndldbmaa
open Go.RowKit
attribute [local go_sem] merge_t merge_f merge_a merge_o

/-- an entry's slab is of one of these tags -/
def slabIs (xs : List E2) (e : E2) (ts : List Int) : Bool := meantD xs e && decide ((xs[e.1.toNat]?.getD (0, 0)).1 ∈ ts)
def SlabP (D : Nat) (xs : List E2) (e : E2) (ts : List Int) (w : World) (r : Ending) (w' : World) : Prop :=
  (if slabIs xs e ts then r = .returned (.pointer (some ⟨D, e.1.toNat * 2, none⟩)) else r = .panicked (errChain 4)) ∧ Later w w'

set_option maxRecDepth 100000 in
set_option maxHeartbeats 4000000 in
theorem hslab_c (hb D n : Nat) (xs : List E2) (s g : Int) (At : Option Addr) (nt ct : Nat) (ts : List Int) (w : World) (hnt : nt ≤ 1000000) (hT : Rd 1 encI w At nt ts) (hH : HandAt w hb D n xs) :
    Calls Try.prog 92 #[.pointer (some ⟨hb, 0, none⟩), .agg #[.int .i64 s, .int .u64 g], .slice At nt ct] w (SlabP D xs (s, g) ts w) := by
  obtain ⟨wb, hwb, hL, hz, f1, -⟩ := box1 w #[.int .i64 s, .int .u64 g] 43
  have e0 := f1 0 (.int .i64 s) rfl
  have e1 := f1 1 (.int .u64 g) rfl
  clear f1
  have hHb := hH.later hL
  have h0 : ∀ W, Later wb W → W.cell? ⟨hb, 0, none⟩ = some (.slice (some ⟨D, 0, none⟩) n n) := cel (hHb.1.cell (i := 0) rfl)
  have hn := hH.2.2.2
  have HR : Hid (Rd 2 encE wb (some ⟨D, 0, none⟩) n xs) := hHb.rd
  have Hx : Hid (xs.length = n) := hH.2.2.1
  have cT : Hid (∀ v W, Later wb W → Calls Try.prog 18 #[.slice At nt ct, .int .i64 v] W fun r w' => r = .returned (.bool (decide (v ∈ ts))) ∧ Later W w') := fun v W hW => containsI_c At nt ct ts v W (by omega) (hT.later (hL.trans hW))
  have cM : Hid (∀ W, Later wb W → Calls Try.prog 35 #[.agg #[.slice (some ⟨D, 0, none⟩) n n], .agg #[.int .i64 s, .int .u64 g]] W fun r w' => r = .returned (.bool (meantD xs (s, g))) ∧ Later W w') := fun W hW => meant_c _ n n xs s g W (by omega) (HR.out.later hW)
  clear hH hHb hT
  cases hm : meantD xs (s, g) with
  | false =>
    have cM' : Hid (∀ W, Later wb W → Calls Try.prog 35 #[.agg #[.slice (some ⟨D, 0, none⟩) n n], .agg #[.int .i64 s, .int .u64 g]] W fun r w' => r = .returned (.bool false) ∧ Later W w') := fun W hW => as_bool (cM.out W hW) hm
    have HP : Hid (slabIs xs (s, g) ts = false) := by show _ = _; rw [slabIs, hm]; rfl
    clear hm
    go_enter Try.func92, Try.ntmps92
    go_wp2
    rw [hwb.out]
    refine region_ghost (S := Later wb) (af := ?_) 20 (cF [(5, .bool false)]) gV0 (cE [(5, .bool false)]) gU0 (by kernel_rfl) (by kernel_rfl) (by kernel_rfl) (by decide) (by kernel_rfl) (fun _ h => h.drew) (Later.refl _) (fun _ _ h h2 => h.trans h2) gL0 gO0 ?_ ?_
    rotate_left
    · intro t
      repeat (first
        | (refine SeqT.val (v := ?_) (by rfl) (by rfl) (fun W hW => ?_) ?_; rotate_left; (· (go_simp; try with_reducible rfl)); try simp only [Act.put, List.setIfInBounds_toArray, List.set_cons_zero, List.set_cons_succ])
        | (refine SeqT.skip (by rfl) (by rfl) ?_; try simp only [Act.put, List.setIfInBounds_toArray, List.set_cons_zero, List.set_cons_succ])
        | (refine SeqT.call (g := ?_) (args := ?_) (.bool false) (by rfl) (by rfl) (by rfl) (fun W hW => ?_) (fun W hW hd => ?_) ?_; rotate_left 2; (· (go_simp; first | with_reducible rfl | (refine ⟨?_, ?_⟩ <;> with_reducible rfl))); (· (exact known (cM'.out W hW) 5 t _ (fun _ => rfl))); try simp only [Act.put, List.setIfInBounds_toArray, List.set_cons_zero, List.set_cons_succ])
        )
      exact SeqT.nil _
    intro t W hW hV
    refine wpList_is (l' := [_]) rfl ?_
    clear hV
    go_wp2_with (go_at_call 89; (with_reducible refine (aneed_no _ _).mono ?_); rintro e w9 ⟨rfl, rfl⟩)
    exact ⟨rfl, by rw [if_neg (by rw [HP.out]; simp)], hL.trans hW⟩
  | true =>
    have cM' : Hid (∀ W, Later wb W → Calls Try.prog 35 #[.agg #[.slice (some ⟨D, 0, none⟩) n n], .agg #[.int .i64 s, .int .u64 g]] W fun r w' => r = .returned (.bool true) ∧ Later W w') := fun W hW => as_bool (cM.out W hW) hm
    obtain ⟨h1, h2, h3⟩ := meant_lt hm
    obtain ⟨i, rfl⟩ := Int.eq_ofNat_of_zero_le h1
    have hi : i < n := by rw [← Hx.out]; omega
    obtain ⟨_, _, e', s0, -⟩ := HR.out.atE i hi
    cases e'
    simp only [Nat.zero_add] at s0
    generalize htg : (xs[i]?.getD (0, 0)).1 = tg at s0
    have cT' : Hid (∀ W, Later wb W → Calls Try.prog 18 #[.slice At nt ct, .int .i64 tg] W fun r w' => r = .returned (.bool (decide (tg ∈ ts))) ∧ Later W w') := cT.out tg
    obtain ⟨b, hb'⟩ : ∃ b, b = decide (tg ∈ ts) := ⟨_, rfl⟩
    rw [← hb'] at cT'
    have HP : Hid (slabIs xs ((i : Int), g) ts = b) := by show _ = _; rw [slabIs, hm, hb', ← htg]; rfl
    clear hm h1 h2 h3 cT cM htg hb'
    go_enter Try.func92, Try.ntmps92
    go_wp2
    rw [hwb.out]
    refine region_ghost (S := Later wb) (af := ?_) 20 (cF [(5, .bool true), (18, .bool b)]) gV0 (cE [(5, .bool true), (18, .bool b)]) gU0 (by kernel_rfl) (by kernel_rfl) (by kernel_rfl) (by decide) (by kernel_rfl) (fun _ h => h.drew) (Later.refl _) (fun _ _ h h2 => h.trans h2) gL0 gO0 ?_ ?_
    rotate_left
    · intro t
      repeat (first
        | (refine SeqT.val (v := ?_) (by rfl) (by rfl) (fun W hW => ?_) ?_; rotate_left; (· (go_simp; try with_reducible rfl)); try simp only [Act.put, List.setIfInBounds_toArray, List.set_cons_zero, List.set_cons_succ])
        | (refine SeqT.skip (by rfl) (by rfl) ?_; try simp only [Act.put, List.setIfInBounds_toArray, List.set_cons_zero, List.set_cons_succ])
        | (refine SeqT.call (g := ?_) (args := ?_) (.bool true) (by rfl) (by rfl) (by rfl) (fun W hW => ?_) (fun W hW hd => ?_) ?_; rotate_left 2; (· (go_simp; first | with_reducible rfl | (refine ⟨?_, ?_⟩ <;> with_reducible rfl))); (· (exact known (cM'.out W hW) 5 t _ (fun _ => rfl))); try simp only [Act.put, List.setIfInBounds_toArray, List.set_cons_zero, List.set_cons_succ])
        | (refine SeqT.call (g := ?_) (args := ?_) (.bool b) (by rfl) (by rfl) (by rfl) (fun W hW => ?_) (fun W hW hd => ?_) ?_; rotate_left 2; (· (go_simp; first | with_reducible rfl | (refine ⟨?_, ?_⟩ <;> with_reducible rfl))); (· (exact known (cT'.out W hW) 18 t _ (fun _ => rfl))); try simp only [Act.put, List.setIfInBounds_toArray, List.set_cons_zero, List.set_cons_succ])
        )
      exact SeqT.nil _
    intro t W hW hV
    refine wpList_is (l' := [_]) rfl ?_
    clear hV
    cases b with
    | false =>
      go_wp2_with (go_at_call 89; (with_reducible refine (aneed_no _ _).mono ?_); rintro e w9 ⟨rfl, rfl⟩)
      exact ⟨rfl, by rw [if_neg (by rw [HP.out]; simp)], hL.trans hW⟩
    | true =>
      go_wp2_with (go_at_call 89; (with_reducible refine (aneed_yes _ _).mono ?_); rintro e w9 ⟨rfl, rfl⟩)
      refine region_draw (S := Later wb) (af := ?_) (by kernel_rfl) (by kernel_rfl) (fun _ h => h.drew) hW ?_ ?_
      rotate_left
      · repeat (first
          | (refine SeqL.val (v := ?_) (by rfl) (fun W hW => ?_) ?_; rotate_left; (· (go_simp; try with_reducible rfl)); try simp only [Act.put, List.setIfInBounds_toArray, List.set_cons_zero, List.set_cons_succ])
          | (refine SeqL.skip (by rfl) ?_; try simp only [Act.put, List.setIfInBounds_toArray, List.set_cons_zero, List.set_cons_succ])
          )
        exact SeqL.nil _
      intro w8 hL8
      go_wp2
      go_ret
      exact ⟨by rw [if_pos (by rw [HP.out])]; simp, hL.trans hL8⟩

/-! ### the closure that catches -/
theorem wpS_hide {P : Program} {c : Code} {Q : Exit → Act → List Frame → World → Prop} {a : Act} {cs : List Frame} {w : World}
    (h : ∀ Q' : Exit → Act → World → Prop, Hid (∀ a w, Q .normal a cs w → Q' .normal a w) → c.wp P Q' a w) : c.wpS P Q a cs w := wpS_of_wp (h _ fun _ _ x => x)
theorem assert_errno (k : Int) (W : World) : (Instr.typeAssert (.iface 33 (.int .i64 k)) 20 33 true).run Try.prog W = .ok (.tuple #[.int .i64 k, .bool true]) W := by kernel_rfl
set_option maxHeartbeats 400000 in
theorem acatch_panic (b0 b1 : Nat) (k : Int) (z : Value) (y : Int) (w : World) (h0 : Box w b0 #[z] 27) (h1 : Box w b1 #[.int .i64 y] 33) :
    CallsD Try.prog 94 #[.pointer (some ⟨b0, 0, none⟩), .pointer (some ⟨b1, 0, none⟩)] (.panicking (errChain k)) w fun e u' w' =>
      e = .returned (.tuple #[]) ∧ u' = .panicking [{ v := .iface 33 (.int .i64 k), recovered := true }] ∧ w' = (w.setCell ⟨b0, 0, none⟩ (.slice none 0 0)).setCell ⟨b1, 0, none⟩ (.int .i64 k) := by
  have c0 := h0.cell (i := 0) rfl
  have f0 := h0.frozen
  have h1' := h1.set_other (g' := b0) (fun e => h0.ne h1 (by decide) e.symm) 0 (.slice none 0 0)
  have c1 := h1'.cell (i := 0) rfl
  have f1 := h1'.frozen
  refine callsD_of_wpS Try.func94 rfl fun c₀ cs hu => ?_
  simp only [Try.ntmps94, List.size_toArray, List.length_cons, List.length_nil, Nat.reduceAdd, Nat.reduceSub, Array.replicate_succ, Array.replicate_zero, List.push_toArray, List.append_toArray, List.nil_append, List.cons_append]
  apply wpS_seq
  apply wpS_region
  simp [wpOpsS, go_sem, recoverD, hu, Exit.thenS, errChain]
  clear h0 h1 h1'
  apply wpS_seq
  apply wpS_region
  simp [wpOpsS, go_sem, Exit.thenS]
  refine wpS_cond (t := true) (by simp [Act.eval]) ?_
  simp only [if_true]
  refine wpS_hide fun Q' hQ => ?_
  clear hu
  have hta := assert_errno k
  go_wp2
  refine hQ.out _ _ ?_
  simp [bodyPostS, results, Try.results94]
theorem acatch_idle (b0 b1 : Nat) (w : World) :
    CallsD Try.prog 94 #[.pointer (some ⟨b0, 0, none⟩), .pointer (some ⟨b1, 0, none⟩)] .returning w fun e u' w' => e = .returned (.tuple #[]) ∧ u' = .returning ∧ w' = w := by
  refine callsD_of_wpS Try.func94 rfl fun c₀ cs hu => ?_
  simp only [Try.ntmps94, List.size_toArray, List.length_cons, List.length_nil, Nat.reduceAdd, Nat.reduceSub, Array.replicate_succ, Array.replicate_zero, List.push_toArray, List.append_toArray, List.nil_append, List.cons_append]
  apply wpS_seq
  apply wpS_region
  simp [wpOpsS, go_sem, recoverD, hu, Exit.thenS]
  apply wpS_seq
  apply wpS_region
  simp [wpOpsS, go_sem, Exit.thenS]
  refine wpS_cond (t := false) (by simp [Act.eval]) ?_
  simp only [Bool.false_eq_true, if_false]
  refine wpS_of_wp (wp_skip ?_)
  cases c₀
  simp_all [bodyPostS, results, Try.results94]

set_option maxHeartbeats 400000 in
theorem mcatch_panic (b0 b1 : Nat) (k : Int) (z : Value) (y : Int) (w : World) (h0 : Box w b0 #[z] 79) (h1 : Box w b1 #[.int .i64 y] 33) :
    CallsD Try.prog 63 #[.pointer (some ⟨b0, 0, none⟩), .pointer (some ⟨b1, 0, none⟩)] (.panicking (errChain k)) w fun e u' w' =>
      e = .returned (.tuple #[]) ∧ u' = .panicking [{ v := .iface 33 (.int .i64 k), recovered := true }] ∧
        w' = ((w.alloc (.cells #[.slice none 0 0, .slice none 0 0, .slice none 0 0, .slice none 0 0, .slice none 0 0] 85)).setCell ⟨b0, 0, none⟩ (.pointer (some ⟨w.heap.size, 0, none⟩))).setCell ⟨b1, 0, none⟩ (.int .i64 k) := by
  have h0' := h0.alloc (.cells #[.slice none 0 0, .slice none 0 0, .slice none 0 0, .slice none 0 0, .slice none 0 0] 85)
  have h1' := (h1.alloc (.cells #[.slice none 0 0, .slice none 0 0, .slice none 0 0, .slice none 0 0, .slice none 0 0] 85)).set_other (g' := b0) (fun e => h0.ne h1 (by decide) e.symm) 0 (.pointer (some ⟨w.heap.size, 0, none⟩))
  have c0 := h0'.cell (i := 0) rfl
  have f0 := h0'.frozen
  have c1 := h1'.cell (i := 0) rfl
  have f1 := h1'.frozen
  refine callsD_of_wpS Try.func63 rfl fun c₀ cs hu => ?_
  simp only [Try.ntmps63, List.size_toArray, List.length_cons, List.length_nil, Nat.reduceAdd, Nat.reduceSub, Array.replicate_succ, Array.replicate_zero, List.push_toArray, List.append_toArray, List.nil_append, List.cons_append]
  apply wpS_seq
  apply wpS_region
  simp [wpOpsS, go_sem, recoverD, hu, Exit.thenS, errChain]
  clear h0 h1 h0' h1'
  apply wpS_seq
  apply wpS_region
  simp [wpOpsS, go_sem, Exit.thenS]
  refine wpS_cond (t := true) (by simp [Act.eval]) ?_
  simp only [if_true]
  refine wpS_hide fun Q' hQ => ?_
  clear hu
  have hta := assert_errno k
  go_wp2
  refine hQ.out _ _ ?_
  simp [bodyPostS, results, Try.results63]
theorem mcatch_idle (b0 b1 : Nat) (w : World) :
    CallsD Try.prog 63 #[.pointer (some ⟨b0, 0, none⟩), .pointer (some ⟨b1, 0, none⟩)] .returning w fun e u' w' => e = .returned (.tuple #[]) ∧ u' = .returning ∧ w' = w := by
  refine callsD_of_wpS Try.func63 rfl fun c₀ cs hu => ?_
  simp only [Try.ntmps63, List.size_toArray, List.length_cons, List.length_nil, Nat.reduceAdd, Nat.reduceSub, Array.replicate_succ, Array.replicate_zero, List.push_toArray, List.append_toArray, List.nil_append, List.cons_append]
  apply wpS_seq
  apply wpS_region
  simp [wpOpsS, go_sem, recoverD, hu, Exit.thenS]
  apply wpS_seq
  apply wpS_region
  simp [wpOpsS, go_sem, Exit.thenS]
  refine wpS_cond (t := false) (by simp [Act.eval]) ?_
  simp only [Bool.false_eq_true, if_false]
  refine wpS_of_wp (wp_skip ?_)
  cases c₀
  simp_all [bodyPostS, results, Try.results63]
end Go.Proofs.Ytdheckfndldbmaa

namespace Go.Proofs.Ytdheckfndldbmaa
open Go.RowKit
attribute [local go_sem] merge_t merge_f merge_a merge_o

section
variable {fn : Func} {p q : Tmp} {ty ty' : TypeId}
theorem results_cc (h : fn.results = #[.cell p ty, .cell q ty']) (tmps : Array Value) (P : Program) (w : World) :
    (results fn tmps).run P w = ((asAddr (tmps.getD p undef)).run P w).andThen fun a w' => ((loadVar ty a).run P w').andThen fun a w' => ((asAddr (tmps.getD q undef)).run P w').andThen fun b w' => ((loadVar ty' b).run P w').andThen fun b w' => .ok (.tuple #[a, b]) w' := by
  simp only [results, h]; simp
theorem results_ct (h : fn.results = #[.cell p ty, .tmp q]) (tmps : Array Value) (P : Program) (w : World) :
    (results fn tmps).run P w = ((asAddr (tmps.getD p undef)).run P w).andThen fun a w' => ((loadVar ty a).run P w').andThen fun a w' => .ok (.tuple #[a, tmps.getD q undef]) w' := by
  simp only [results, h]; simp
theorem results_ctt {q' : Tmp} (h : fn.results = #[.cell p ty, .tmp q, .tmp q']) (tmps : Array Value) (P : Program) (w : World) :
    (results fn tmps).run P w = ((asAddr (tmps.getD p undef)).run P w).andThen fun a w' => ((loadVar ty a).run P w').andThen fun a w' => .ok (.tuple #[a, tmps.getD q undef, tmps.getD q' undef]) w' := by
  simp only [results, h]; simp
theorem results_cct {q' : Tmp} (h : fn.results = #[.cell p ty, .cell q ty', .tmp q']) (tmps : Array Value) (P : Program) (w : World) :
    (results fn tmps).run P w = ((asAddr (tmps.getD p undef)).run P w).andThen fun a w' => ((loadVar ty a).run P w').andThen fun a w' => ((asAddr (tmps.getD q undef)).run P w').andThen fun b w' => ((loadVar ty' b).run P w').andThen fun b w' => .ok (.tuple #[a, b, tmps.getD q' undef]) w' := by
  simp only [results, h]; simp
end

/-- what is behind a call of the arena's tries: it left with an error -/
def ErrA (k : Int) (r : Ending) : Prop := r = .returned (.tuple #[.agg #[.slice none 0 0], .int .i64 k])

set_option maxRecDepth 100000 in
set_option maxHeartbeats 4000000 in
theorem atries_bad (A : Option Addr) (n c : Nat) (xs : List E2) (fv : Value) (w : World) (hm : n ≤ 1000000) (hR : Rd 2 encE w A n xs) (hA : arenaOk xs = false) :
    Calls Try.prog 87 #[.agg #[.slice A n c], fv] w fun r w' => ErrA 210 r ∧ Later w w' := by
  have hmf : ∀ (fn : Fn) (first cap : Array Value) (w : World), (Instr.makeFunc fn first cap).run Try.prog w = .ok (.func fn first cap) w := fun _ _ _ _ => rfl
  obtain ⟨wb, hwb⟩ : ∃ wb, Hid (((w.alloc (.cells #[.slice A n c] 27)).alloc (.cells #[.slice none 0 0] 27)).alloc (.cells #[.int .i64 0] 33) = wb) := ⟨_, rfl⟩
  have hL : Later w wb := by rw [← hwb.out]; exact (((Later.refl _).alloc _).alloc _).alloc _
  have b2 : Box wb w.heap.size #[.slice A n c] 27 := by rw [← hwb.out]; exact ((Box.new _ _ _).alloc _).alloc _
  have b4 : Box wb (w.heap.size + 1) #[.slice none 0 0] 27 := by
    rw [← hwb.out]; have := Box.new (w.alloc (.cells #[.slice A n c] 27)) #[.slice none 0 0] 27
    rw [World.size_alloc] at this; exact this.alloc _
  have b5 : Box wb (w.heap.size + 1 + 1) #[.int .i64 0] 33 := by
    rw [← hwb.out]; have := Box.new ((w.alloc (.cells #[.slice A n c] 27)).alloc (.cells #[.slice none 0 0] 27)) #[.int .i64 0] 33
    simpa only [World.size_alloc] using this
  have cA : Hid (∀ W, Later wb W → Calls Try.prog 34 #[.agg #[.slice A n c]] W fun r w' => r = .returned (.int .i64 210) ∧ Later W w') := fun W hW => by
    have := acheck_c A n c xs W (by omega) (hR.later (hL.trans hW))
    rwa [show ckA xs = 210 by simp [ckA, hA]] at this
  have B4 := Lib.hid b4
  have B5 := Lib.hid b5
  have c2 := cel (b2.cell (i := 0) rfl)
  clear hR hA b2 b4 b5
  go_enter_defers Try.func87, Try.ntmps87
  go_wp2_with fail
  rw [hwb.out]
  refine (cA.out _ (Later.refl _)).mono ?_
  rintro e w1 ⟨rfl, hL1⟩
  go_wp2_with (go_at_call 89; (with_reducible refine (aneed_no _ _).mono ?_); rintro e w9 ⟨rfl, rfl⟩)
  refine leaves_cons (f := 94) (args := #[.pointer (some ⟨w.heap.size + 1, 0, none⟩), .pointer (some ⟨w.heap.size + 1 + 1, 0, none⟩)]) (by simp) (by simp [go_sem]) ?_
  refine (acatch_panic _ _ _ _ _ _ (B4.out.later hL1) (B5.out.later hL1)).mono ?_
  rintro e u' w2 ⟨rfl, rfl, hw2⟩
  have g4 : Box w2 (w.heap.size + 1) #[.slice none 0 0] 27 := by
    rw [hw2]; have := ((B4.out.later hL1).set 0 (.slice none 0 0)).set_other (g' := w.heap.size + 1 + 1) (by omega) 0 (.int .i64 210)
    simpa using this
  have g5 : Box w2 (w.heap.size + 1 + 1) #[.int .i64 210] 33 := by
    rw [hw2]; have := ((B5.out.later hL1).set_other (g' := w.heap.size + 1) (by omega) 0 (.slice none 0 0)).set 0 (.int .i64 210)
    simpa using this
  have hL2 : Later w w2 := by rw [hw2]; exact ((hL.trans hL1).set (by omega) _).set (by omega) _
  have c4 := g4.cell (i := 0) rfl
  have c5 := g5.cell (i := 0) rfl
  clear hw2
  show Leaves _ _ _ _ _ (settle _) _
  refine ⟨.tuple #[.agg #[.slice none 0 0], .int .i64 210], by rw [results_cc rfl]; go_simp, rfl, hL2⟩

theorem Box.row {W : World} {g : Nat} {cs : Array Value} {t : TypeId} (h : Box W g cs t) (cs' : Array Value) : Box (W.setRow g cs') g cs' t := setRow_heap _ _ _ _ _ _ h
theorem Box.row_other {W : World} {g g' : Nat} {cs : Array Value} {t : TypeId} (h : Box W g cs t) (hne : g ≠ g') (cs' : Array Value) : Box (W.setRow g' cs') g cs t := by
  show (W.setRow g' cs').heap[g]? = _
  rw [setRow_other _ _ _ _ hne]; exact h

set_option maxRecDepth 100000 in
set_option maxHeartbeats 4000000 in
theorem atries_c (A : Option Addr) (n c : Nat) (xs : List E2) (f : FuncId) (caps : Array Value) (w : World) (hm : n ≤ 1000000) (hR : Rd 2 encE w A n xs) (hA : arenaOk xs = true)
    (cf : ∀ (args : Array Value) (W : World), (callFunc f args).run Try.prog W = .ok (.enter f args) W) (S : Nat → Prop) (Rg : List E2 → World → Prop) (Rb : Int → Prop) (hS : ∀ i, S i → i < w.heap.size)
    (hst : ∀ ys W b cs t v, Rg ys W → Box W b cs t → (t = 27 ∨ t = 33) → Rg ys (W.setCell ⟨b, 0, none⟩ v))
    (hd : ∀ W hb D, Later w W → w.heap.size ≤ hb → w.heap.size ≤ D → HandAt W hb D n xs → Calls Try.prog f (#[.pointer (some ⟨hb, 0, none⟩)] ++ caps) W fun r W' => Chg (fun i => i = D ∨ S i) W W' ∧
      ((r = .returned (.tuple #[]) ∧ ∃ ys, HandAt W' hb D n ys ∧ Rg ys W') ∨ (∃ k, r = .panicked (errChain k) ∧ Rb k))) :
    Calls Try.prog 87 #[.agg #[.slice A n c], .func (.func f) #[] caps] w fun r w' => Chg S w w' ∧
      ((∃ ys D, r = .returned (.tuple #[.agg #[.slice (some ⟨D, 0, none⟩) n n], .int .i64 0]) ∧ w.heap.size ≤ D ∧ Box w' D (flat encE ys).toArray 47 ∧ ys.length = n ∧ Rg ys w') ∨ (∃ k, ErrA k r ∧ Rb k)) := by
  have hmf : ∀ (fn : Fn) (first cap : Array Value) (w : World), (Instr.makeFunc fn first cap).run Try.prog w = .ok (.func fn first cap) w := fun _ _ _ _ => rfl
  have hmk := make_eq (P := Try.prog) 25 47 (.agg #[.int .i64 0, .int .u64 0]) 2 16 Try.underlying25 infoS n (by omega) (by omega)
  obtain ⟨wb, hwb⟩ : ∃ wb, Hid (((w.alloc (.cells #[.slice A n c] 27)).alloc (.cells #[.slice none 0 0] 27)).alloc (.cells #[.int .i64 0] 33) = wb) := ⟨_, rfl⟩
  have hL : Later w wb := by rw [← hwb.out]; exact (((Later.refl _).alloc _).alloc _).alloc _
  have b2 : Box wb w.heap.size #[.slice A n c] 27 := by rw [← hwb.out]; exact ((Box.new _ _ _).alloc _).alloc _
  have b4 : Box wb (w.heap.size + 1) #[.slice none 0 0] 27 := by
    rw [← hwb.out]; have := Box.new (w.alloc (.cells #[.slice A n c] 27)) #[.slice none 0 0] 27
    rw [World.size_alloc] at this; exact this.alloc _
  have b5 : Box wb (w.heap.size + 1 + 1) #[.int .i64 0] 33 := by
    rw [← hwb.out]; have := Box.new ((w.alloc (.cells #[.slice A n c] 27)).alloc (.cells #[.slice none 0 0] 27)) #[.int .i64 0] 33
    simpa only [World.size_alloc] using this
  have cA : Hid (∀ W, Later wb W → Calls Try.prog 34 #[.agg #[.slice A n c]] W fun r w' => r = .returned (.int .i64 0) ∧ Later W w') := fun W hW => by
    have := acheck_c A n c xs W (by omega) (hR.later (hL.trans hW))
    rwa [show ckA xs = 0 by simp [ckA, hA]] at this
  have hwz : wb.heap.size = w.heap.size + 3 := by rw [← hwb.out]; simp
  have Hwz := Lib.hid hwz
  clear hwz
  have B4 := Lib.hid b4
  have B5 := Lib.hid b5
  have HR : Hid (Rd 2 encE wb A n xs) := hR.later hL
  have HST := Lib.hid hst
  have HD := Lib.hid hd
  have HS := Lib.hid hS
  have hn2 : 2 ≤ n := by simp only [arenaOk, Bool.and_eq_true, decide_eq_true_eq] at hA; rw [← hR.1]; exact hA.1
  have c2 := cel (b2.cell (i := 0) rfl)
  clear hR hA b2 b4 b5 hst hd hS
  go_enter_defers Try.func87, Try.ntmps87
  go_wp2_with fail
  rw [hwb.out]
  refine (cA.out _ (Later.refl _)).mono ?_
  rintro e w1 ⟨rfl, hL1⟩
  have c2' := celw hL1 c2
  go_wp2_with (go_at_call 89; (with_reducible refine (aneed_yes _ _).mono ?_); rintro e w9 ⟨rfl, rfl⟩)
  obtain ⟨w2, hw2⟩ : ∃ w2, Hid ((w1.alloc (.cells (madeCells #[.int .i64 0, .int .u64 0] (n * 2)) 47)).alloc (.cells #[.slice (some ⟨w1.heap.size, 0, none⟩) n n] 115) = w2) := ⟨_, rfl⟩
  rw [hw2.out]
  have hL2 : Later w1 w2 := by rw [← hw2.out]; exact ((Later.refl _).alloc _).alloc _
  have bD : Box w2 w1.heap.size (madeCells #[.int .i64 0, .int .u64 0] (n * 2)) 47 := by rw [← hw2.out]; exact (Box.new _ _ _).alloc _
  have bH : Box w2 (w1.heap.size + 1) #[.slice (some ⟨w1.heap.size, 0, none⟩) n n] 115 := by
    rw [← hw2.out]; have := Box.new (w1.alloc (.cells (madeCells #[.int .i64 0, .int .u64 0] (n * 2)) 47)) #[.slice (some ⟨w1.heap.size, 0, none⟩) n n] 115
    simpa only [World.size_alloc] using this
  have c3 := cel (bH.cell (i := 0) rfl)
  have c4 := celw hL2 c2'
  have hzz : wb.heap.size ≤ w1.heap.size := hL1.sz
  have hz4 := B5.out.lt
  clear hw2
  refine region_ghost (S := Later w2) (af := ?_) 7 gF0 gV0 gE0 gU0 (by kernel_rfl) (by kernel_rfl) (by kernel_rfl) (by decide) (by kernel_rfl) (fun _ h => h.drew) (Later.refl _) (fun _ _ h h2 => h.trans h2) gL0 gO0 ?_ ?_
  rotate_left
  · intro t
    repeat (first
      | (refine SeqT.val (v := ?_) (by rfl) (by rfl) (fun W hW => ?_) ?_; rotate_left; (· (go_simp; try with_reducible rfl)); try simp only [Act.put, List.setIfInBounds_toArray, List.set_cons_zero, List.set_cons_succ])
      | (refine SeqT.skip (by rfl) (by rfl) ?_; try simp only [Act.put, List.setIfInBounds_toArray, List.set_cons_zero, List.set_cons_succ])
      )
    exact SeqT.nil _
  intro t W hW hV
  refine wpList_is (l' := [_]) rfl ?_
  clear hV
  have hLW : Later wb W := hL1.trans (hL2.trans hW)
  have bDW := bD.later hW
  have bHW := bH.later hW
  go_wp2_with (refine wpList_copy_rd (o := ⟨some 26, _, _, _, _, _⟩) rfl (.tmp 23) (.tmp 25) 25 25 rfl enc_E 47 Try.underlying25 infoSS w1.heap.size n c A rfl rfl _ bDW (by simp [size_madeCells]) xs (HR.out.later hLW) ?_)
  obtain ⟨w4, hw4⟩ : ∃ w4, Hid (W.setRow w1.heap.size (flat encE xs).toArray = w4) := ⟨_, rfl⟩
  rw [hw4.out]
  have hsz1 : w.heap.size + 3 ≤ w1.heap.size := by have := Hwz.out; omega
  have hL4 : Later w w4 := by rw [← hw4.out]; exact later_setRow (hL.trans hLW) (by omega) _
  have hL4b : Later wb w4 := by rw [← hw4.out]; exact later_setRow hLW hzz _
  have hH4 : HandAt w4 (w1.heap.size + 1) w1.heap.size n xs := by rw [← hw4.out]; exact ⟨bHW.row_other (by omega) _, bDW.row _, HR.out.1, hm⟩
  have g4 := B4.out.later hL4b
  have g5 := B5.out.later hL4b
  have hsz4 : w1.heap.size + 2 ≤ w4.heap.size := by have := hH4.1.lt; omega
  clear hw4 bD bDW bH bHW c3 c4 hW
  refine (HD.out w4 _ _ hL4 (by omega) (by omega) hH4).mono ?_
  rintro r5 w5 ⟨hC, ⟨rfl, ys, hH5, hRg⟩ | ⟨k, rfl, hRb⟩⟩
  · have hb4 : Box w5 (w.heap.size + 1) #[.slice none 0 0] 27 := g4.chg hC (by rintro (h | h); omega; have := HS.out _ h; omega)
    have hb5 : Box w5 (w.heap.size + 1 + 1) #[.int .i64 0] 33 := g5.chg hC (by rintro (h | h); omega; have := HS.out _ h; omega)
    have hw5 : Chg S w w5 := (Chg.of_later hL4).trans' hC (fun i hi h => h.resolve_left (by omega))
    have c5 := hH5.1.cell (i := 0) rfl
    have c6 := hb4.cell (i := 0) rfl
    have f6 := hb4.frozen
    have k6 := hb4.set 0 (.slice (some ⟨w1.heap.size, 0, none⟩) n n)
    have k7 := hb5.set_other (g' := w.heap.size + 1) (by omega) 0 (.slice (some ⟨w1.heap.size, 0, none⟩) n n)
    have r6 := HST.out _ _ _ _ _ (.slice (some ⟨w1.heap.size, 0, none⟩) n n) hRg hb4 (.inl rfl)
    have d6 := hH5.2.1.set_other (g' := w.heap.size + 1) (by omega) 0 (.slice (some ⟨w1.heap.size, 0, none⟩) n n)
    have hw6 : Chg S w (w5.setCell ⟨w.heap.size + 1, 0, none⟩ (.slice (some ⟨w1.heap.size, 0, none⟩) n n)) := hw5.setNew (by omega) _
    obtain ⟨w6, hw6e⟩ : ∃ w6, w5.setCell ⟨w.heap.size + 1, 0, none⟩ (.slice (some ⟨w1.heap.size, 0, none⟩) n n) = w6 := ⟨_, rfl⟩
    rw [hw6e] at k6 k7 r6 d6 hw6
    have c7 := k7.cell (i := 0) rfl
    have f7 := k7.frozen
    have k8 := k6.set_other (g' := w.heap.size + 1 + 1) (by omega) 0 (.int .i64 0)
    have k9 := k7.set 0 (.int .i64 0)
    have r8 := HST.out _ _ _ _ _ (.int .i64 0) r6 k7 (.inr rfl)
    have d8 := d6.set_other (g' := w.heap.size + 1 + 1) (by omega) 0 (.int .i64 0)
    have hw8 : Chg S w (w6.setCell ⟨w.heap.size + 1 + 1, 0, none⟩ (.int .i64 0)) := hw6.setNew (by omega) _
    obtain ⟨w8, hw8e⟩ : ∃ w8, w6.setCell ⟨w.heap.size + 1 + 1, 0, none⟩ (.int .i64 0) = w8 := ⟨_, rfl⟩
    rw [hw8e] at k8 k9 r8 d8 hw8
    have K8 := Lib.hid (show Box w8 (w.heap.size + 1) #[.slice (some ⟨w1.heap.size, 0, none⟩) n n] 27 by simpa using k8)
    have K9 := Lib.hid (show Box w8 (w.heap.size + 1 + 1) #[.int .i64 0] 33 by simpa using k9)
    have HF := Lib.hid (show Chg S w w8 ∧ Box w8 w1.heap.size (flat encE ys).toArray 47 ∧ ys.length = n ∧ Rg ys w8 from ⟨hw8, d8, hH5.2.2.1, r8⟩)
    clear k6 k7 r6 d6 hw6 k8 k9 r8 d8 hw8 hH5 hRg hb4 hb5 hw5 hC
    go_wp2
    refine leaves_cons (f := 94) (args := #[.pointer (some ⟨w.heap.size + 1, 0, none⟩), .pointer (some ⟨w.heap.size + 1 + 1, 0, none⟩)]) (by simp) (by simp [go_sem]) ?_
    refine (acatch_idle _ _ _).mono ?_
    rintro e u' w9 ⟨rfl, rfl, rfl⟩
    have z4 := K8.out.cell (i := 0) rfl
    have z5 := K9.out.cell (i := 0) rfl
    show Leaves _ _ _ _ _ (settle _) _
    exact ⟨.tuple #[.agg #[.slice (some ⟨w1.heap.size, 0, none⟩) n n], .int .i64 0], by rw [results_cc rfl]; go_simp, HF.out.1, .inl ⟨ys, w1.heap.size, rfl, by omega, HF.out.2⟩⟩
  · have hb4 : Box w5 (w.heap.size + 1) #[.slice none 0 0] 27 := g4.chg hC (by rintro (h | h); omega; have := HS.out _ h; omega)
    have hb5 : Box w5 (w.heap.size + 1 + 1) #[.int .i64 0] 33 := g5.chg hC (by rintro (h | h); omega; have := HS.out _ h; omega)
    have hw5 : Chg S w w5 := (Chg.of_later hL4).trans' hC (fun i hi h => h.resolve_left (by omega))
    go_wp2
    refine leaves_cons (f := 94) (args := #[.pointer (some ⟨w.heap.size + 1, 0, none⟩), .pointer (some ⟨w.heap.size + 1 + 1, 0, none⟩)]) (by simp) (by simp [go_sem]) ?_
    refine (acatch_panic _ _ _ _ _ _ hb4 hb5).mono ?_
    rintro e u' w9 ⟨rfl, rfl, hw9⟩
    have k4 : Box w9 (w.heap.size + 1) #[.slice none 0 0] 27 := by
      rw [hw9]; have := (hb4.set 0 (.slice none 0 0)).set_other (g' := w.heap.size + 1 + 1) (by omega) 0 (.int .i64 k)
      simpa using this
    have k5 : Box w9 (w.heap.size + 1 + 1) #[.int .i64 k] 33 := by
      rw [hw9]; have := (hb5.set_other (g' := w.heap.size + 1) (by omega) 0 (.slice none 0 0)).set 0 (.int .i64 k)
      simpa using this
    have hw10 : Chg S w w9 := by rw [hw9]; exact (hw5.setNew (by omega) _).setNew (by omega) _
    have z4 := k4.cell (i := 0) rfl
    have z5 := k5.cell (i := 0) rfl
    clear hw9
    show Leaves _ _ _ _ _ (settle _) _
    exact ⟨.tuple #[.agg #[.slice none 0 0], .int .i64 k], by rw [results_cc rfl]; go_simp, hw10, .inr ⟨k, rfl, hRb⟩⟩
end Go.Proofs.Ytdheckfndldbmaa
