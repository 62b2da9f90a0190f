/- Plain: the monitors of wakes. | A region that draws its order, where what holds hangs on which operations have come up (J). | What stays of what a call hands over; the regions of wakes. | The other regions of wakes. -/
import Derived.Test.YtdheckfndldbmaaM14
namespace Go.Proofs.Ytdheckfndldbmaa

def wkL1 : List W4 := [(1, 0, 0, 0), (6, 0, 0, 0), (1, 1, 0, 0), (3, 1, 0, 0)]
def wkL2 : List W4 := [(7, 0, 0, 0), (8, 0, 0, 0), (6, 0, 0, 0), (4, 1, 0, 0)]
def wk1 : MonD := ⟨[(1, 0), (0, 0)], [true, true], [[(0, 0)], [(0, 0)]], []⟩
def wk2 : MonD := ⟨[(1, 1), (0, 0)], [true, true], [[(0, 0), (0, 1)], [(0, 0)]], [(4, 1, 0, 0)]⟩
def wk3 : MonD := ⟨[(2, 0), (0, 0)], [true, true], [[(0, 0)], [(0, 0)]], []⟩
def wk4 : MonD := ⟨[(1, 1), (0, 0)], [true, false], [[(0, 0), (0, 1)], []], [(4, 1, 0, 0)]⟩
theorem wk_run1 : runM (newM 2 2) wkL1 = .ok (wk1, [(0, 0)]) := by rfl
theorem wk_run2 : runM wk1 wkL2 = .ok (wk2, [(0, 1)]) := by rfl
theorem wk_do3 : doM wk1 (7, 0, 0, 0) = .ok (wk3, []) := by rfl
theorem wk_do4 : doM wk2 (2, 1, 0, 0) = .ok (wk4, []) := by rfl
theorem wk_do5 : doM wk4 (2, 1, 0, 0) = .error 4 := by rfl
theorem wk_hold : holdersX wk1 (0, 0) = [0, 1] := by rfl
theorem wk_safe : safeX wk1 (0, 0) = false := by rfl
theorem wk_g1 : touchD wk1 (4, 1, 0, 0) = true := by rfl
theorem wk_g2 : touchD wk3 (5, 1, 0, 0) = false := by rfl
theorem wk_g3 : touchD wk3 (4, 1, 0, 0) = true := by rfl
end Go.Proofs.Ytdheckfndldbmaa

namespace Go.Proofs.Ytdheckfndldbmaa.Z
open Go.RowKit

section
variable {P : Program} {ops : Array Oper} {Q : Exit → Act → World → Prop} {S : World → Prop} {J : (Nat → Prop) → (Nat → Gh) → World → Prop} {eff : Nat → Bool} {f : Nat → Gh → Value}

def RunE (P : Program) (f : Gh → Value) (V : Gh → World → Prop) : Result Next → Prop
  | .ok (.value u) W' => ∃ s, u = f s ∧ V s W'
  | .ok (.enter g args) W' => Calls P g args W' fun e W'' => ∃ s, e = .returned (f s) ∧ V s W''
  | .ok .skip W' => ∃ s, undef = f s ∧ V s W'
  | _ => False
/-- what is at hand when operation k comes up -/
structure Rdy (J : (Nat → Prop) → (Nat → Gh) → World → Prop) (t : Nat → Gh) (k : Nat) (o : Oper) (D : Nat → Prop) (W : World) : Prop where
  st : J D t W
  new : ¬ D k
  got : ∀ j, (∃ e ∈ o.after, Region.binds .any e = true ∧ e.on = j) → D j
def OpE (J : (Nat → Prop) → (Nat → Gh) → World → Prop) (P : Program) (ops : Array Oper) (f : Nat → Gh → Value) (t : Nat → Gh) (k : Nat) (o : Oper) (a : Act) : Prop :=
  Region.wanted o (yielded ops a.tmps) = true ∧ ∀ D W, Rdy J t k o D W → RunE P (f k) (fun s W' => J (fun j => D j ∨ j = k) (upd t k s) W') ((execOp a.eval o).run P W)
/-- one operation in the text's order -/
def OpT (J : (Nat → Prop) → (Nat → Gh) → World → Prop) (P : Program) (ops : Array Oper) (S : World → Prop) (eff : Nat → Bool) (f : Nat → Gh → Value) (t : Nat → Gh) (k : Nat) (o : Oper) (a : Act) (v : Value) : Prop :=
  if eff k = true then v = f k (t k) ∧ OpE J P ops f t k o a else OpP P ops S o a v
def SeqT (J : (Nat → Prop) → (Nat → Gh) → World → Prop) (P : Program) (ops : Array Oper) (S : World → Prop) (eff : Nat → Bool) (f : Nat → Gh → Value) (t : Nat → Gh) : Nat → List Oper → Act → Act → Prop
  | _, [], a, af => a = af
  | k, o :: rest, a, af => ∃ v, OpT J P ops S eff f t k o a v ∧ SeqT J P ops S eff f t (k + 1) rest (a.put o.dst v) af

theorem SeqT.nil {t : Nat → Gh} {k : Nat} (a : Act) : SeqT J P ops S eff f t k [] a a := rfl
theorem SeqT.val {t : Nat → Gh} {k : Nat} {o : Oper} {rest : List Oper} {a af : Act} {v : Value} (he : eff k = false) (hw : Region.wanted o (yielded ops a.tmps) = true) (h : ∀ W, S W → (execOp a.eval o).run P W = .ok (.value v) W)
    (hr : SeqT J P ops S eff f t (k + 1) rest (a.put o.dst v) af) : SeqT J P ops S eff f t k (o :: rest) a af := ⟨v, by simp only [OpT, he, Bool.false_eq_true, if_false]; exact .inl ⟨hw, h⟩, hr⟩
theorem SeqT.skip {t : Nat → Gh} {k : Nat} {o : Oper} {rest : List Oper} {a af : Act} (he : eff k = false) (hw : Region.wanted o (yielded ops a.tmps) = false)
    (hr : SeqT J P ops S eff f t (k + 1) rest (a.put o.dst undef) af) : SeqT J P ops S eff f t k (o :: rest) a af := ⟨undef, by simp only [OpT, he, Bool.false_eq_true, if_false]; exact .inr ⟨hw, rfl⟩, hr⟩
theorem SeqT.call {t : Nat → Gh} {k : Nat} {o : Oper} {rest : List Oper} {a af : Act} {g : FuncId} {args : Array Value} (v : Value) (he : eff k = true) (hw : Region.wanted o (yielded ops a.tmps) = true)
    (hv : f k (t k) = v) (hx : ∀ W, (execOp a.eval o).run P W = .ok (.enter g args) W)
    (h : ∀ D W, Rdy J t k o D W → Calls P g args W fun e W' => ∃ s, e = .returned (f k s) ∧ J (fun j => D j ∨ j = k) (upd t k s) W')
    (hr : SeqT J P ops S eff f t (k + 1) rest (a.put o.dst v) af) : SeqT J P ops S eff f t k (o :: rest) a af :=
  ⟨v, by simp only [OpT, he, if_true]; exact ⟨hv.symm, hw, fun D W hD => by rw [hx W]; exact h D W hD⟩, hr⟩
/-- an alloc, or another builtin that makes a new block -/
theorem SeqT.make {t : Nat → Gh} {k : Nat} {o : Oper} {rest : List Oper} {a af : Act} (v : Value) (he : eff k = true) (hw : Region.wanted o (yielded ops a.tmps) = true)
    (hv : f k (t k) = v) (h : ∀ D W, Rdy J t k o D W → ∃ s W', (execOp a.eval o).run P W = .ok (.value (f k s)) W' ∧ J (fun j => D j ∨ j = k) (upd t k s) W')
    (hr : SeqT J P ops S eff f t (k + 1) rest (a.put o.dst v) af) : SeqT J P ops S eff f t k (o :: rest) a af :=
  ⟨v, by simp only [OpT, he, if_true]; exact ⟨hv.symm, hw, fun D W hD => by obtain ⟨s, W', h1, h2⟩ := h D W hD; rw [h1]; exact ⟨s, rfl, h2⟩⟩, hr⟩
/-- a store -/
theorem SeqT.store {t : Nat → Gh} {k : Nat} {o : Oper} {rest : List Oper} {a af : Act} (he : eff k = true) (hw : Region.wanted o (yielded ops a.tmps) = true)
    (hv : ∀ s, f k s = undef) (h : ∀ D W, Rdy J t k o D W → ∃ W', (execOp a.eval o).run P W = .ok .skip W' ∧ J (fun j => D j ∨ j = k) (upd t k default) W')
    (hr : SeqT J P ops S eff f t (k + 1) rest (a.put o.dst undef) af) : SeqT J P ops S eff f t k (o :: rest) a af :=
  ⟨undef, by simp only [OpT, he, if_true]; exact ⟨(hv _).symm, hw, fun D W hD => by obtain ⟨W', h1, h2⟩ := h D W hD; rw [h1]; exact ⟨default, (hv _).symm, h2⟩⟩, hr⟩

theorem SeqT.vals (hk : OkL ops) {t : Nat → Gh} : ∀ (rest : List Oper) (k : Nat) (a af : Act), (∀ j, j < rest.length → rest[j]? = ops[k + j]?) → SeqT J P ops S eff f t k rest a af → ∀ (vals : Nat → Value) (a0 : Act), At ops vals a0 (fun i => i < k) a →
    ∃ vals' : Nat → Value, (∀ i, i < k → vals' i = vals i) ∧ At ops vals' a0 (fun i => i < k + rest.length) af ∧
      ∀ (i : Nat) (o : Oper), ops[i]? = some o → k ≤ i → i < k + rest.length → ∃ b, At ops vals' a0 (fun j => j < i) b ∧ OpT J P ops S eff f t i o b (vals' i)
  | [], k, a, af, hl, h, vals, a0, hA => by
    obtain rfl : a = af := h
    exact ⟨vals, fun _ _ => rfl, by simpa using hA, fun i o ho hki hlt => by simp at hlt; omega⟩
  | o :: rest, k, a, af, hl, h, vals, a0, hA => by
    obtain ⟨v, hv, hr⟩ := h
    have hok : ops[k]? = some o := by have := hl 0 (by simp); simpa using this.symm
    let vals1 : Nat → Value := fun i => if i = k then v else vals i
    have hA1 : At ops vals1 a0 (fun i => i < k) a := ⟨hA.size, hA.defers, fun i oi d hi hd hD => by
      have hne : i ≠ k := by omega
      simp only [vals1, if_neg hne]; exact hA.did i oi d hi hd hD, hA.not⟩
    have hA2 : At ops vals1 a0 (fun i => i < k + 1) (a.put o.dst v) := by
      have h2 := hA1.put hk hok
      have hv1 : vals1 k = v := by simp [vals1]
      rw [hv1] at h2
      refine ⟨h2.size, h2.defers, fun i oi d hi hd hD => h2.did i oi d hi hd (by omega), fun d hn => h2.not d fun i oi hi hd hD => hn i oi hi hd (by omega)⟩
    obtain ⟨vals', h1, h2, h3⟩ := SeqT.vals hk rest (k + 1) (a.put o.dst v) af (fun j hj => by have := hl (j + 1) (by simp; omega); rw [show k + 1 + j = k + (j + 1) by omega, ← this]; rfl) hr vals1 a0 hA2
    have hvk : vals' k = v := by rw [h1 k (by omega)]; simp [vals1]
    refine ⟨vals', fun i hi => by rw [h1 i (by omega)]; simp [vals1]; omega, by rw [show k + (o :: rest).length = k + 1 + rest.length by simp; omega]; exact h2, fun i oi hi hki hlt => ?_⟩
    by_cases hik : i = k
    · subst hik
      rw [hok] at hi; cases hi
      refine ⟨a, ⟨hA1.size, hA1.defers, fun j oj d hj hd hD => ?_, hA1.not⟩, by rw [hvk]; exact hv⟩
      rw [h1 j (by omega)]
      exact hA1.did j oj d hj hd hD
    · exact h3 i oi hi (by omega) (by simp at hlt; omega)

/-- what has come up does not hang on what has not -/
theorem vals_agree (hk : OkL ops) {a0 : Act} {n : Nat} {val : (Nat → Gh) → Nat → Value} {W : World} (hS : S W)
    (hv : ∀ t (i : Nat) (o : Oper), ops[i]? = some o → i < n → ∃ b, At ops (val t) a0 (fun j => j < i) b ∧ OpT J P ops S eff f t i o b (val t i))
    {D : Nat → Prop} (hcl : ∀ j, D j → ∀ o, ops[j]? = some o → ∀ e ∈ o.after, Region.binds .any e = true → D e.on) {i0 : Nat} (hi0 : ¬ D i0) {t t' : Nat → Gh} (ht : ∀ j, j ≠ i0 → t j = t' j) :
    ∀ j, j < n → D j → j < ops.size → val t j = val t' j := by
  intro j
  induction j using Nat.strongRecOn with
  | _ j ih =>
    intro hj hD hjs
    have ho : ops[j]? = some ops[j] := by simp [hjs]
    obtain ⟨b, hb, h1⟩ := hv t j _ ho hj
    obtain ⟨b', hb', h2⟩ := hv t' j _ ho hj
    have hne : j ≠ i0 := fun e => hi0 (e ▸ hD)
    cases he : eff j with
    | true =>
      simp only [OpT, he, if_true] at h1 h2
      rw [h1.1, h2.1, ht j hne]
    | false =>
      simp only [OpT, he, Bool.false_eq_true, if_false] at h1 h2
      obtain ⟨hx, hw⟩ := same_exec hk ho (At.alike hk hb hb' ho (fun e he hb => hk.ahead j _ ho e he hb) (fun e he hb => hk.ahead j _ ho e he hb)
        (fun e he hbd => by
          have hlt := hk.ahead j _ ho e he hbd
          exact ih e.on hlt (by omega) (hcl j hD _ ho e he hbd) (by omega)))
      rcases h1 with ⟨w1, r1⟩ | ⟨w1, r1⟩ <;> rcases h2 with ⟨w2, r2⟩ | ⟨w2, r2⟩
      · have e1 := r1 W hS
        rw [hx, r2 W hS] at e1
        simpa using e1.symm
      · rw [hw, w2] at w1; cases w1
      · rw [hw, w2] at w1; cases w1
      · rw [r1, r2]

theorem wpAny_of_T (hk : OkL ops) {a0 : Act} {n : Nat} {af : (Nat → Gh) → Act} {val : (Nat → Gh) → Nat → Value} (hn : n ≤ ops.size) (htail : tailOk n ops = true)
    (hJS : ∀ D t W, J D t W → S W) (hJe : ∀ D D' t W, (∀ k, eff k = true → (D k ↔ D' k)) → J D t W → J D' t W)
    (hf0 : ∀ t, At ops (val t) a0 (fun i => i < n) (af t))
    (hv : ∀ t (i : Nat) (o : Oper), ops[i]? = some o → i < n → ∃ b, At ops (val t) a0 (fun j => j < i) b ∧ OpT J P ops S eff f t i o b (val t i))
    (hQ : ∀ t W, J (fun j => j < n) t W → wpList P ops Q (ops.toList.drop n) (af t) W) :
    ∀ (fuel : Nat) (listed : Array Bool) (a : Act) (w : World) (t : Nat → Gh), listed.size = ops.size → leftL listed ≤ fuel → listed.getD n false = false →
      (∀ j, listed.getD j false = true → ∀ o, ops[j]? = some o → ∀ e ∈ o.after, Region.binds .any e = true → listed.getD e.on false = true) →
      At ops (val t) a0 (fun i => listed.getD i false = true) a → J (fun j => listed.getD j false = true) t w → wpAny P .any ops Q fuel listed a w := by
  -- nothing is ready only when all is listed
  have done : ∀ (listed : Array Bool), listed.size = ops.size → Region.ready .any ops listed = [] → ∀ i, i < ops.size → listed.getD i false = true := by
    intro listed hsz hr i hi
    induction i using Nat.strongRecOn with
    | _ i ih =>
      cases hc : listed.getD i false with
      | true => rfl
      | false =>
        exfalso
        have hmem : i ∈ Region.ready .any ops listed := mem_ready.2 ⟨by
          have : i < listed.size := by omega
          simp [this] at hc ⊢; exact hc, ops[i], by simp [hi], fun e he hb => by
            have hlt := hk.ahead i ops[i] (by simp [hi]) e he hb
            exact ih e.on hlt (by omega)⟩
        rw [hr] at hmem
        cases hmem
  -- all of the front has come up: the tail
  have front : ∀ (fuel : Nat) (listed : Array Bool) (a : Act) (w : World) (t : Nat → Gh), listed.size = ops.size → ops.size - n ≤ fuel → (∀ j, listed.getD j false = true ↔ j < n) →
      At ops (val t) a0 (fun i => listed.getD i false = true) a → J (fun j => listed.getD j false = true) t w → wpAny P .any ops Q fuel listed a w := by
    intro fuel listed a w t hsz hf hD hA hJ
    obtain rfl : a = af t := hA.eq (hf0 t) fun j _ => hD j
    exact wpAny_tail hk htail fuel n listed _ w (Nat.le_refl _) hn hsz hf hD (hQ t w (hJe _ _ _ _ (fun k _ => hD k) hJ))
  have left_ge : ∀ (listed : Array Bool), listed.size = ops.size → (∀ j, listed.getD j false = true ↔ j < n) → ops.size - n ≤ leftL listed := by
    intro listed hsz hD
    unfold leftL
    rw [hsz]
    have : ((List.range ops.size).filter fun i => !listed.getD i true) = (List.range ops.size).filter fun i => decide (n ≤ i) := by
      refine List.filter_congr fun i hi => ?_
      have hi' := List.mem_range.1 hi
      have h1 := hD i
      have hlt : i < listed.size := by omega
      simp [hlt] at h1 ⊢
      by_cases hn' : i < n
      · rw [h1.2 hn']; simp; omega
      · have : listed[i] = false := by cases h : listed[i] with | true => exact absurd (h1.1 h) hn' | false => rfl
        rw [this]; simp; omega
    rw [this]
    clear this
    have hrange : ∀ (s : Nat), s - n ≤ ((List.range s).filter fun i => decide (n ≤ i)).length := by
      intro s
      induction s with
      | zero => simp
      | succ s ihs =>
        rw [List.range_succ, List.filter_append, List.length_append]
        by_cases h : n ≤ s
        · simp [h]; omega
        · omega
    exact hrange _
  intro fuel
  induction fuel with
  | zero =>
    intro listed a w t hsz hl hln hcl hA hJ
    have hS := hJS _ _ _ hJ
    have hr : Region.ready .any ops listed = [] := by
      refine List.eq_nil_iff_forall_not_mem.2 fun i hi => ?_
      have := leftL_set listed i (mem_ready.1 hi).1
      omega
    have hall := done listed hsz hr
    have hns : n = ops.size := by
      by_cases h : n = ops.size
      · exact h
      · have := hall n (by omega)
        rw [hln] at this; cases this
    refine front 0 listed a w t hsz (by omega) (fun j => ⟨fun h => ?_, fun h => hall j (by omega)⟩) hA hJ
    by_cases hj : j < listed.size
    · omega
    · simp [hj] at h
  | succ fuel ih =>
    intro listed a w t hsz hl hln hcl hA hJ
    have hS := hJS _ _ _ hJ
    by_cases hfull : ∀ j, j < n → listed.getD j false = true
    · have hD : ∀ j, listed.getD j false = true ↔ j < n := fun j => ⟨fun h => by
        by_cases hj : j < n
        · exact hj
        · exfalso
          by_cases hjs : j < ops.size
          · have ho : ops[j]? = some ops[j] := by simp [hjs]
            have := tailOk_spec hk htail (D := fun j => listed.getD j false = true) hcl (i := j) (by omega) ho (fun e he hb => hcl j h _ ho e he hb) n
            by_cases hjn : j = n
            · subst hjn; rw [hln] at h; cases h
            · have := this (by omega); rw [hln] at this; cases this
          · have hj2 : ¬ j < listed.size := by omega
            simp [hj2] at h, hfull j⟩
      exact front (fuel + 1) listed a w t hsz (by have := left_ge listed hsz hD; omega) hD hA hJ
    refine ⟨fun hr => ?_, fun i hi => ?_⟩
    · exfalso
      refine hfull fun j hj => done listed hsz hr j (by omega)
    obtain ⟨hun, o, ho, hall⟩ := mem_ready.1 hi
    have his : i < ops.size := (Array.getElem?_eq_some_iff.1 ho).1
    have hlt : i < listed.size := by omega
    have heq : ∀ j, (listed.setIfInBounds i true).getD j false = true ↔ (listed.getD j false = true ∨ j = i) := fun j => by
      by_cases hji : j = i
      · subst hji; simp [hlt]
      · rw [getD_set_ne false (Ne.symm hji)]; simp [hji]
    have hni : ¬ listed.getD i false = true := by
      intro h
      have h2 : listed.getD i true = false := hun
      simp [hlt] at h h2
      rw [h] at h2; cases h2
    have hin' : i < n := by
      by_cases h : i < n
      · exact h
      · exact absurd (fun j hj => tailOk_spec hk htail (D := fun j => listed.getD j false = true) hcl (i := i) (by omega) ho hall j (by omega)) hfull
    have hin : i ≠ n := by omega
    obtain ⟨b, hb, hop⟩ := hv t i o ho hin'
    obtain ⟨hx, hw⟩ := same_exec hk ho (At.alike hk hb hA ho (fun e he hbd => hk.ahead i o ho e he hbd) hall (fun _ _ _ => rfl))
    have hln' : (listed.setIfInBounds i true).getD n false = false := by rw [getD_set_ne false hin]; exact hln
    have hcl' : ∀ j, (listed.setIfInBounds i true).getD j false = true → ∀ o, ops[j]? = some o → ∀ e ∈ o.after, Region.binds .any e = true → (listed.setIfInBounds i true).getD e.on false = true := by
      intro j hj oj hoj e he hbd
      refine (heq _).2 (.inl ?_)
      rcases (heq j).1 hj with h | h
      · exact hcl j h oj hoj e he hbd
      · subst h; rw [ho] at hoj; cases hoj; exact hall e he hbd
    have hleft : leftL (listed.setIfInBounds i true) ≤ fuel := by
      have := leftL_set listed i (mem_ready.1 hi).1
      omega
    unfold Go.wpOp
    simp only [ho]
    cases he : eff i with
    | false =>
      simp only [OpT, he, Bool.false_eq_true, if_false] at hop
      have hput : At ops (val t) a0 (fun j => (listed.setIfInBounds i true).getD j false = true) (a.put o.dst (val t i)) := by
        have h2 := hA.put hk ho
        exact ⟨h2.size, h2.defers, fun j oj d hj hd hD => h2.did j oj d hj hd ((heq j).1 hD), fun d hn => h2.not d fun j oj hj hd hD => hn j oj hj hd ((heq j).2 hD)⟩
      have hgo := ih (listed.setIfInBounds i true) _ w t (by simp [hsz]) hleft hln' hcl' hput (hJe _ _ _ _ (fun k hk => ⟨fun h => (heq k).2 (.inl h), fun h => ((heq k).1 h).resolve_right fun e => by rw [e, he] at hk; cases hk⟩) hJ)
      rcases hop with ⟨w1, r1⟩ | ⟨w1, r1⟩
      · rw [← hw, w1, if_pos rfl]
        refine .inl ?_
        unfold Oper.wp
        rw [← hx, r1 w hS]
        exact hgo
      · rw [← hw, w1, if_neg (by simp)]
        rw [← r1]
        exact hgo
    | true =>
      simp only [OpT, he, if_true] at hop
      obtain ⟨-, w1, r1⟩ := hop
      rw [← hw, w1, if_pos rfl]
      refine .inl ?_
      unfold Oper.wp
      rw [← hx]
      have hr := r1 _ w ⟨hJ, hni, fun j ⟨e, hee, hbd, hon⟩ => by subst hon; exact hall e hee hbd⟩
      -- behind it: the ghost of i is what has come of it
      have key : ∀ (s : Gh) (W' : World), J (fun j => listed.getD j false = true ∨ j = i) (upd t i s) W' → wpAny P .any ops Q fuel (listed.setIfInBounds i true) (a.put o.dst (f i s)) W' := by
        intro s W' hJ'
        have hag := vals_agree (J := J) (P := P) (S := S) (eff := eff) (f := f) hk (val := val) hS hv (D := fun j => listed.getD j false = true) hcl hni (t := t) (t' := upd t i s) (fun j hj => by simp [upd, hj])
        have hvi : val (upd t i s) i = f i s := by
          obtain ⟨b', _, h'⟩ := hv (upd t i s) i o ho hin'
          simp only [OpT, he, if_true] at h'
          rw [h'.1]; simp [upd]
        have hA' : At ops (val (upd t i s)) a0 (fun j => listed.getD j false = true) a := ⟨hA.size, hA.defers, fun j oj d hj hd hD => by
          have hjs : j < ops.size := (Array.getElem?_eq_some_iff.1 hj).1
          have hjn : j < n := by
            by_cases hj2 : j < n
            · exact hj2
            · exfalso
              by_cases hjn : j = n
              · subst hjn; rw [hln] at hD; cases hD
              · have h3 := tailOk_spec hk htail (D := fun j => listed.getD j false = true) hcl (i := j) (by omega) hj (fun e he hb => hcl j hD _ hj e he hb) n (by omega)
                rw [hln] at h3; cases h3
          rw [← hag j hjn hD hjs]; exact hA.did j oj d hj hd hD, hA.not⟩
        have h2 := hA'.put hk ho
        rw [hvi] at h2
        refine ih (listed.setIfInBounds i true) _ W' (upd t i s) (by simp [hsz]) hleft hln' hcl' ⟨h2.size, h2.defers, fun j oj d hj hd hD => h2.did j oj d hj hd ((heq j).1 hD), fun d hn => h2.not d fun j oj hj hd hD => hn j oj hj hd ((heq j).2 hD)⟩ (hJe _ _ _ _ (fun k _ => (heq k).symm) hJ')
      generalize (execOp b.eval o).run P w = r at *
      cases r with
      | ok nx w' =>
        cases nx <;> simp only [RunE] at hr <;> simp only [Oper.upon]
        case value u => obtain ⟨s, rfl, h2⟩ := hr; exact key s w' h2
        case skip =>
          obtain ⟨s, h1, h2⟩ := hr
          have := key s w' h2
          rwa [← h1] at this
        case enter g args =>
          refine hr.mono fun e w'' h => ?_
          obtain ⟨s, rfl, h2⟩ := h
          exact key s w'' h2
      | halt x w' => exact hr.elim

/-- **THE REGION**: walk the first n once, in the text's order, for every ghost; the others come in the text's order. -/
theorem region_j {id : Nat} {l : List Oper} {a : Act} {w : World} (n : Nat) (f : Nat → Gh → Value) (eff : Nat → Bool) {af : (Nat → Gh) → Act} (hm : P.follows .mixedOrders = true) (hk : okL l.toArray = true) (hn : n ≤ l.length) (htail : tailOk n l.toArray = true)
    (hJS : ∀ D t W, J D t W → S W) (hJe : ∀ D D' t W, (∀ k, eff k = true → (D k ↔ D' k)) → J D t W → J D' t W) (hw : ∀ t, J (fun _ => False) t w.drew) (h : ∀ t, SeqT J P l.toArray S eff f t 0 (l.take n) a (af t))
    (hQ : ∀ t W, J (fun j => j < n) t W → wpList P l.toArray Q (l.drop n) (af t) W) : (Code.region id l.toArray true).wp P Q a w := by
  have hk := okL_spec hk
  have hln : (l.take n).length = n := by rw [List.length_take]; omega
  have hex := fun t => SeqT.vals hk (l.take n) 0 a (af t) (fun j hj => by rw [hln] at hj; simp [List.getElem?_take, hj]) (h t) (fun _ => undef) a ⟨rfl, rfl, fun _ _ _ _ _ h => by omega, fun _ _ => rfl⟩
  obtain ⟨val, hval⟩ := Classical.axiomOfChoice hex
  refine wp_region_any hm ?_
  have hrep : ∀ j, ¬ (Array.replicate l.toArray.size false).getD j false = true := fun j hj => by
    by_cases h : j < l.toArray.size
    · simp at h; simp [h] at hj
    · simp at h; simp [h] at hj
  refine wpAny_of_T hk (n := n) (val := val) (a0 := a) (af := af) (by simpa using hn) htail hJS hJe (fun t => by have := (hval t).2.1; rw [hln] at this; simpa using this) (fun t i o hi hlt => (hval t).2.2 i o hi (Nat.zero_le _) (by rw [hln]; omega)) (fun t W hJ => by simpa using hQ t W hJ) _ _ a _ (fun _ => default) (by simp) ?_ ?_ ?_ ?_ (hJe _ _ _ _ (fun k _ => ⟨fun h => h.elim, fun h => absurd h (hrep k)⟩) (hw _))
  · unfold leftL
    refine Nat.le_trans (List.length_filter_le _ _) (by simp)
  · have := hrep n; simpa using this
  · exact fun j hj => absurd hj (hrep j)
  · exact ⟨rfl, rfl, fun i o d hi hd' hD => absurd hD (hrep i), fun _ _ => rfl⟩
end
end Go.Proofs.Ytdheckfndldbmaa.Z

namespace Go.Proofs.Ytdheckfndldbmaa
open Go.RowKit

/-- what a call has made stays true: only older blocks, and new ones change -/
def Stab (Res : World → Prop) (W : World) (Tg : Nat → Prop) : Prop :=
  ∃ Wc Wr, (∀ V, Chg (Old Wc Wr) Wr V → Res V) ∧ Chg (Old Wc Wr) Wr W ∧ ∀ n, Tg n → Old Wc Wr n ∨ Wr.heap.size ≤ n
section
variable {Res : World → Prop} {W W' : World} {Tg Tg' : Nat → Prop}
theorem Stab.res (h : Stab Res W Tg) : Res W := let ⟨_, _, h1, h2, _⟩ := h; h1 W h2
theorem Stab.call {Wc Wr : World} (hL : Later Wc Wr) (h : ∀ V, Chg (Old Wc Wr) Wr V → Res V) (hT : ∀ n, Tg n → ∃ cs t, Box Wc n cs t ∧ t ≠ 47) : Stab Res Wr Tg :=
  ⟨Wc, Wr, h, .refl _ _, fun n hn => let ⟨cs, t, hb, ht⟩ := hT n hn; .inl ⟨hb.lt, cs, t, hb.later hL, ht⟩⟩
theorem Stab.later (h : Stab Res W Tg) (hL : Later W W') : Stab Res W' Tg := let ⟨Wc, Wr, h1, h2, h3⟩ := h; ⟨Wc, Wr, h1, h2.later hL, h3⟩
theorem Stab.set (h : Stab Res W Tg) (hC : Chg Tg W W') : Stab Res W' Tg := let ⟨Wc, Wr, h1, h2, h3⟩ := h; ⟨Wc, Wr, h1, h2.trans' hC fun i hi hT => (h3 i hT).resolve_right (by omega), h3⟩
theorem Stab.to (h : Stab Res W Tg) (hT : ∀ n, Tg' n → Tg n ∨ W.heap.size ≤ n) : Stab Res W Tg' := let ⟨Wc, Wr, h1, h2, h3⟩ := h; ⟨Wc, Wr, h1, h2, fun n hn => (hT n hn).elim (h3 n) fun h => .inr (Nat.le_trans h2.size h)⟩
end

/-- what Run hands over -/
def RunRes (B : Nat) (m : MonD) (tk : List E2) (s : Gh) (W : World) : Prop := RMon B W s.v m ∧ Rd 2 encE W s.A tk.length tk ∧ tk.length ≤ s.c ∧ s.c ≤ 9223372036854775807
def DoRes (B : Nat) (m : MonD) (s : Gh) (W : World) : Prop := RMon B W s.v m

/-! region 4: Run, then a box -/
structure J4 (W0 : World) (ys : List W4) (Res : Gh → World → Prop) (D : Nat → Prop) (t : Nat → Gh) (W : World) : Prop where
  la : Later W0 W
  d9 : D 9 → Box W (t 9).n (flat encW ys).toArray 45
  d15 : D 15 → W0.heap.size ≤ (t 15).n ∧ ∃ z0 z1 z2 z3, Box W (t 15).n #[z0, z1, z2, z3] 32 ∧ (D 16 → (t 10).v = .agg #[z0, z1, z2, z3])
  d16 : D 16 → D 15 ∧ D 10
  d10 : D 10 → Stab (Res (t 10)) W fun n => D 15 ∧ n = (t 15).n
def j4E (i : Nat) : Bool := i == 2 || i == 4 || i == 6 || i == 8 || i == 9 || i == 10 || i == 15 || i == 16
section
variable {W0 W W' : World} {ys : List W4} {Res : Gh → World → Prop} {D D' : Nat → Prop} {t t' : Nat → Gh}
theorem J4.to (h : J4 W0 ys Res D t W) (e : ∀ k, k = 9 ∨ k = 10 ∨ k = 15 ∨ k = 16 → (D k ↔ D' k) ∧ t k = t' k) (hL : Later W W') : J4 W0 ys Res D' t' W' := by
  have e9 := e 9 (by omega); have e10 := e 10 (by omega); have e15 := e 15 (by omega); have e16 := e 16 (by omega)
  refine ⟨h.la.trans hL, ?_, ?_, ?_, ?_⟩
  · rw [← e9.1, ← e9.2]; exact fun hd => (h.d9 hd).later hL
  · rw [← e15.1, ← e15.2, ← e16.1, ← e10.2]
    exact fun hd => let ⟨h1, z0, z1, z2, z3, h2, h3⟩ := h.d15 hd; ⟨h1, z0, z1, z2, z3, h2.later hL, h3⟩
  · rw [← e15.1, ← e16.1, ← e10.1]; exact h.d16
  · rw [← e15.1, ← e15.2, ← e10.1, ← e10.2]; exact fun hd => (h.d10 hd).later hL
theorem J4.je (he : ∀ k, j4E k = true → (D k ↔ D' k)) (h : J4 W0 ys Res D t W) : J4 W0 ys Res D' t W := h.to (fun k hk => ⟨he k (by rcases hk with rfl | rfl | rfl | rfl <;> rfl), rfl⟩) (Later.refl _)
/-- an operation that no other hangs on -/
theorem J4.else (h : J4 W0 ys Res D t W) (k : Nat) (hk : k ≠ 9 ∧ k ≠ 10 ∧ k ≠ 15 ∧ k ≠ 16) (s : Gh) (hL : Later W W') : J4 W0 ys Res (fun j => D j ∨ j = k) (upd t k s) W' :=
  h.to (fun j hj => ⟨⟨.inl, fun h => h.resolve_right (by omega)⟩, by simp only [upd]; rw [if_neg (by omega)]⟩) hL
theorem J4.o9 (h : J4 W0 ys Res D t W) {s : Gh} (hL : Later W W') (hb : Box W' s.n (flat encW ys).toArray 45) : J4 W0 ys Res (fun j => D j ∨ j = 9) (upd t 9 s) W' :=
  ⟨h.la.trans hL, fun _ => hb, fun hd => let ⟨h1, z0, z1, z2, z3, h2, h3⟩ := h.d15 (hd.resolve_right (by decide)); ⟨h1, z0, z1, z2, z3, h2.later hL, fun h => h3 (h.resolve_right (by decide))⟩,
    fun hd => (h.d16 (hd.resolve_right (by decide))).imp .inl .inl, fun hd => ((h.d10 (hd.resolve_right (by decide))).later hL).to fun n hn => .inl ⟨hn.1.resolve_right (by decide), hn.2⟩⟩
theorem J4.o10 (h : J4 W0 ys Res D t W) (hn : ¬ D 10) {s : Gh} (hL : Later W W') (hR : ∀ V, Chg (Old W W') W' V → Res s V) : J4 W0 ys Res (fun j => D j ∨ j = 10) (upd t 10 s) W' :=
  ⟨h.la.trans hL, fun hd => (h.d9 (hd.resolve_right (by decide))).later hL, fun hd => let ⟨h1, z0, z1, z2, z3, h2, h3⟩ := h.d15 (hd.resolve_right (by decide)); ⟨h1, z0, z1, z2, z3, h2.later hL, fun h4 => absurd (h.d16 (h4.resolve_right (by decide))).2 hn⟩,
    fun hd => absurd (h.d16 (hd.resolve_right (by decide))).2 hn, fun _ => Stab.call hL hR fun n ⟨hn1, hn2⟩ => let ⟨_, z0, z1, z2, z3, h2, _⟩ := h.d15 (hn1.resolve_right (by decide)); ⟨#[z0, z1, z2, z3], 32, by rw [hn2]; exact h2, by decide⟩⟩
theorem J4.o15 (h : J4 W0 ys Res D t W) (hn : ¬ D 15) {s : Gh} (hL : Later W W') (hs : s.n = W.heap.size) {z0 z1 z2 z3 : Value} (hb : Box W' s.n #[z0, z1, z2, z3] 32) : J4 W0 ys Res (fun j => D j ∨ j = 15) (upd t 15 s) W' :=
  ⟨h.la.trans hL, fun hd => (h.d9 (hd.resolve_right (by decide))).later hL, fun _ => ⟨by have := h.la.sz; show W0.heap.size ≤ s.n; omega, z0, z1, z2, z3, hb, fun h4 => absurd (h.d16 (h4.resolve_right (by decide))).1 hn⟩,
    fun hd => absurd (h.d16 (hd.resolve_right (by decide))).1 hn, fun hd => ((h.d10 (hd.resolve_right (by decide))).to fun n ⟨_, hn2⟩ => .inr (by rw [hn2]; exact Nat.le_of_eq hs.symm)).later hL⟩
theorem J4.o16 (h : J4 W0 ys Res D t W) (h15 : D 15) (h10 : D 10) {s : Gh} {z0 z1 z2 z3 : Value} (hv : (t 10).v = .agg #[z0, z1, z2, z3]) : J4 W0 ys Res (fun j => D j ∨ j = 16) (upd t 16 s) ((((W.setCell ⟨(t 15).n, 0, none⟩ z0).setCell ⟨(t 15).n, 1, none⟩ z1).setCell ⟨(t 15).n, 2, none⟩ z2).setCell ⟨(t 15).n, 3, none⟩ z3) := by
  obtain ⟨h1, y0, y1, y2, y3, h2, -⟩ := h.d15 h15
  have hC : Chg (fun i => i = (t 15).n) W ((((W.setCell ⟨(t 15).n, 0, none⟩ z0).setCell ⟨(t 15).n, 1, none⟩ z1).setCell ⟨(t 15).n, 2, none⟩ z2).setCell ⟨(t 15).n, 3, none⟩ z3) := (((Chg.set (S := fun i => i = (t 15).n) (.refl _ _) rfl _).set rfl _).set rfl _).set rfl _
  refine ⟨((Chg.of_later h.la).trans hC).to_later fun i hi e => by omega, fun hd => ?_, fun _ => ⟨h1, z0, z1, z2, z3, h2.set4 _ _ _ _, fun _ => hv⟩, fun _ => ⟨.inl h15, .inl h10⟩, fun _ => ?_⟩
  · have := h.d9 (hd.resolve_right (by decide))
    exact this.chg hC (this.ne h2 (by decide))
  · exact ((h.d10 h10).set (hC.mono fun i _ e => ⟨h15, e⟩)).to fun n hn => .inl ⟨h15, hn.2⟩
end
end Go.Proofs.Ytdheckfndldbmaa

namespace Go.Proofs.Ytdheckfndldbmaa
open Go.RowKit

/-! region 3: Run, then a box that is there -/
structure J3 (W0 : World) (b3 : Nat) (old : Array Value) (ys : List W4) (Res : Gh → World → Prop) (D : Nat → Prop) (t : Nat → Gh) (W : World) : Prop where
  ch : Chg (fun i => i = b3) W0 W
  d9 : D 9 → Box W (t 9).n (flat encW ys).toArray 45
  bx : ∃ z0 z1 z2 z3, Box W b3 #[z0, z1, z2, z3] 32 ∧ (D 15 → (t 10).v = .agg #[z0, z1, z2, z3]) ∧ (¬ D 15 → #[z0, z1, z2, z3] = old)
  d15 : D 15 → D 0 ∧ D 10
  d10 : D 10 → Stab (Res (t 10)) W fun n => n = b3
def j3E (i : Nat) : Bool := i == 0 || i == 2 || i == 4 || i == 6 || i == 8 || i == 9 || i == 10 || i == 15
section
variable {W0 W W' : World} {b3 : Nat} {old : Array Value} {ys : List W4} {Res : Gh → World → Prop} {D D' : Nat → Prop} {t t' : Nat → Gh}
theorem J3.to (h : J3 W0 b3 old ys Res D t W) (e : ∀ k, k = 0 ∨ k = 9 ∨ k = 10 ∨ k = 15 → (D k ↔ D' k) ∧ t k = t' k) (hL : Later W W') : J3 W0 b3 old ys Res D' t' W' := by
  have e0 := e 0 (by omega); have e9 := e 9 (by omega); have e10 := e 10 (by omega); have e15 := e 15 (by omega)
  refine ⟨h.ch.later hL, ?_, ?_, ?_, ?_⟩
  · rw [← e9.1, ← e9.2]; exact fun hd => (h.d9 hd).later hL
  · rw [← e15.1, ← e10.2]
    obtain ⟨z0, z1, z2, z3, h2, h3⟩ := h.bx
    exact ⟨z0, z1, z2, z3, h2.later hL, h3⟩
  · rw [← e15.1, ← e0.1, ← e10.1]; exact h.d15
  · rw [← e10.1, ← e10.2]; exact fun hd => (h.d10 hd).later hL
theorem J3.je (he : ∀ k, j3E k = true → (D k ↔ D' k)) (h : J3 W0 b3 old ys Res D t W) : J3 W0 b3 old ys Res D' t W := h.to (fun k hk => ⟨he k (by rcases hk with rfl | rfl | rfl | rfl <;> rfl), rfl⟩) (Later.refl _)
theorem J3.else (h : J3 W0 b3 old ys Res D t W) (k : Nat) (hk : k ≠ 0 ∧ k ≠ 9 ∧ k ≠ 10 ∧ k ≠ 15) (s : Gh) (hL : Later W W') : J3 W0 b3 old ys Res (fun j => D j ∨ j = k) (upd t k s) W' :=
  h.to (fun j hj => ⟨⟨.inl, fun h => h.resolve_right (by omega)⟩, by simp only [upd]; rw [if_neg (by omega)]⟩) hL
theorem J3.o0 (h : J3 W0 b3 old ys Res D t W) (hn : ¬ D 0) (s : Gh) : J3 W0 b3 old ys Res (fun j => D j ∨ j = 0) (upd t 0 s) W := by
  obtain ⟨z0, z1, z2, z3, h2, h3, h4⟩ := h.bx
  exact ⟨h.ch, fun hd => h.d9 (hd.resolve_right (by decide)), ⟨z0, z1, z2, z3, h2, fun hd => h3 (hd.resolve_right (by decide)), fun hd => h4 fun e => hd (.inl e)⟩, fun hd => absurd (h.d15 (hd.resolve_right (by decide))).1 hn, fun hd => h.d10 (hd.resolve_right (by decide))⟩
theorem J3.o9 (h : J3 W0 b3 old ys Res D t W) {s : Gh} (hL : Later W W') (hb : Box W' s.n (flat encW ys).toArray 45) : J3 W0 b3 old ys Res (fun j => D j ∨ j = 9) (upd t 9 s) W' := by
  obtain ⟨z0, z1, z2, z3, h2, h3, h4⟩ := h.bx
  exact ⟨h.ch.later hL, fun _ => hb, ⟨z0, z1, z2, z3, h2.later hL, fun hd => h3 (hd.resolve_right (by decide)), fun hd => h4 fun e => hd (.inl e)⟩, fun hd => (h.d15 (hd.resolve_right (by decide))).imp .inl .inl, fun hd => (h.d10 (hd.resolve_right (by decide))).later hL⟩
theorem J3.o10 (h : J3 W0 b3 old ys Res D t W) (hn : ¬ D 10) {s : Gh} (hL : Later W W') (hR : ∀ V, Chg (Old W W') W' V → Res s V) : J3 W0 b3 old ys Res (fun j => D j ∨ j = 10) (upd t 10 s) W' := by
  obtain ⟨z0, z1, z2, z3, h2, h3, h4⟩ := h.bx
  exact ⟨h.ch.later hL, fun hd => (h.d9 (hd.resolve_right (by decide))).later hL, ⟨z0, z1, z2, z3, h2.later hL, fun hd => absurd (h.d15 (hd.resolve_right (by decide))).2 hn, fun hd => h4 fun e => hd (.inl e)⟩, fun hd => absurd (h.d15 (hd.resolve_right (by decide))).2 hn,
    fun _ => Stab.call hL hR fun n hn2 => ⟨#[z0, z1, z2, z3], 32, by rw [hn2]; exact h2, by decide⟩⟩
theorem J3.o15 (h : J3 W0 b3 old ys Res D t W) (h0 : D 0) (h10 : D 10) {s : Gh} {z0 z1 z2 z3 : Value} (hv : (t 10).v = .agg #[z0, z1, z2, z3]) : J3 W0 b3 old ys Res (fun j => D j ∨ j = 15) (upd t 15 s) ((((W.setCell ⟨b3, 0, none⟩ z0).setCell ⟨b3, 1, none⟩ z1).setCell ⟨b3, 2, none⟩ z2).setCell ⟨b3, 3, none⟩ z3) := by
  obtain ⟨y0, y1, y2, y3, h2, -, -⟩ := h.bx
  have hC : Chg (fun i => i = b3) W ((((W.setCell ⟨b3, 0, none⟩ z0).setCell ⟨b3, 1, none⟩ z1).setCell ⟨b3, 2, none⟩ z2).setCell ⟨b3, 3, none⟩ z3) := (((Chg.set (S := fun i => i = b3) (.refl _ _) rfl _).set rfl _).set rfl _).set rfl _
  refine ⟨h.ch.trans hC, fun hd => ?_, ⟨z0, z1, z2, z3, h2.set4 _ _ _ _, fun _ => hv, fun hd => absurd (.inr rfl) hd⟩, fun _ => ⟨.inl h0, .inl h10⟩, fun _ => (h.d10 h10).set hC⟩
  have := h.d9 (hd.resolve_right (by decide))
  exact this.chg hC (this.ne h2 (by decide))
end

/-! regions 5 to 7: Do, then two boxes -/
structure J5 (W0 : World) (Res : Gh → World → Prop) (D : Nat → Prop) (t : Nat → Gh) (W : World) : Prop where
  la : Later W0 W
  d8 : D 8 → W0.heap.size ≤ (t 8).n ∧ ∃ z0 z1 z2 z3, Box W (t 8).n #[z0, z1, z2, z3] 32 ∧ (D 10 → (t 3).v = .agg #[z0, z1, z2, z3])
  d9 : D 9 → W0.heap.size ≤ (t 9).n ∧ ∃ y0 y1, Box W (t 9).n #[y0, y1] 43
  d10 : D 10 → D 8 ∧ D 3
  d3 : D 3 → Stab (Res (t 3)) W fun n => (D 8 ∧ n = (t 8).n) ∨ (D 9 ∧ n = (t 9).n)
def j5E (i : Nat) : Bool := i == 2 || i == 3 || i == 8 || i == 9 || i == 10 || i == 11
section
variable {W0 W W' : World} {Res : Gh → World → Prop} {D D' : Nat → Prop} {t t' : Nat → Gh}
theorem J5.to (h : J5 W0 Res D t W) (e : ∀ k, k = 3 ∨ k = 8 ∨ k = 9 ∨ k = 10 → (D k ↔ D' k) ∧ t k = t' k) (hL : Later W W') : J5 W0 Res D' t' W' := by
  have e3 := e 3 (by omega); have e8 := e 8 (by omega); have e9 := e 9 (by omega); have e10 := e 10 (by omega)
  refine ⟨h.la.trans hL, ?_, ?_, ?_, ?_⟩
  · rw [← e8.1, ← e8.2, ← e10.1, ← e3.2]
    exact fun hd => let ⟨h1, z0, z1, z2, z3, h2, h3⟩ := h.d8 hd; ⟨h1, z0, z1, z2, z3, h2.later hL, h3⟩
  · rw [← e9.1, ← e9.2]
    exact fun hd => let ⟨h1, y0, y1, h2⟩ := h.d9 hd; ⟨h1, y0, y1, h2.later hL⟩
  · rw [← e10.1, ← e8.1, ← e3.1]; exact h.d10
  · rw [← e3.1, ← e3.2, ← e8.1, ← e8.2, ← e9.1, ← e9.2]; exact fun hd => (h.d3 hd).later hL
theorem J5.je (he : ∀ k, j5E k = true → (D k ↔ D' k)) (h : J5 W0 Res D t W) : J5 W0 Res D' t W := h.to (fun k hk => ⟨he k (by rcases hk with rfl | rfl | rfl | rfl <;> rfl), rfl⟩) (Later.refl _)
theorem J5.else (h : J5 W0 Res D t W) (k : Nat) (hk : k ≠ 3 ∧ k ≠ 8 ∧ k ≠ 9 ∧ k ≠ 10) (s : Gh) (hL : Later W W') : J5 W0 Res (fun j => D j ∨ j = k) (upd t k s) W' :=
  h.to (fun j hj => ⟨⟨.inl, fun h => h.resolve_right (by omega)⟩, by simp only [upd]; rw [if_neg (by omega)]⟩) hL
theorem J5.o3 (h : J5 W0 Res D t W) (hn : ¬ D 3) {s : Gh} (hL : Later W W') (hR : ∀ V, Chg (Old W W') W' V → Res s V) : J5 W0 Res (fun j => D j ∨ j = 3) (upd t 3 s) W' :=
  ⟨h.la.trans hL, fun hd => let ⟨h1, z0, z1, z2, z3, h2, h3⟩ := h.d8 (hd.resolve_right (by decide)); ⟨h1, z0, z1, z2, z3, h2.later hL, fun h4 => absurd (h.d10 (h4.resolve_right (by decide))).2 hn⟩,
    fun hd => let ⟨h1, y0, y1, h2⟩ := h.d9 (hd.resolve_right (by decide)); ⟨h1, y0, y1, h2.later hL⟩, fun hd => absurd (h.d10 (hd.resolve_right (by decide))).2 hn,
    fun _ => Stab.call hL hR fun n hn2 => by
      rcases hn2 with ⟨hn1, hn2⟩ | ⟨hn1, hn2⟩
      · obtain ⟨_, z0, z1, z2, z3, h2, _⟩ := h.d8 (hn1.resolve_right (by decide))
        exact ⟨#[z0, z1, z2, z3], 32, by rw [hn2]; exact h2, by decide⟩
      · obtain ⟨_, y0, y1, h2⟩ := h.d9 (hn1.resolve_right (by decide))
        exact ⟨#[y0, y1], 43, by rw [hn2]; exact h2, by decide⟩⟩
theorem J5.o8 (h : J5 W0 Res D t W) (hn : ¬ D 8) {s : Gh} (hL : Later W W') (hs : s.n = W.heap.size) {z0 z1 z2 z3 : Value} (hb : Box W' s.n #[z0, z1, z2, z3] 32) : J5 W0 Res (fun j => D j ∨ j = 8) (upd t 8 s) W' :=
  ⟨h.la.trans hL, fun _ => ⟨by have := h.la.sz; show W0.heap.size ≤ s.n; omega, z0, z1, z2, z3, hb, fun h4 => absurd (h.d10 (h4.resolve_right (by decide))).1 hn⟩,
    fun hd => let ⟨h1, y0, y1, h2⟩ := h.d9 (hd.resolve_right (by decide)); ⟨h1, y0, y1, h2.later hL⟩, fun hd => absurd (h.d10 (hd.resolve_right (by decide))).1 hn,
    fun hd => ((h.d3 (hd.resolve_right (by decide))).to fun n hn2 => by
      rcases hn2 with ⟨_, hn2⟩ | ⟨hn1, hn2⟩
      · exact .inr (by rw [hn2]; exact Nat.le_of_eq hs.symm)
      · exact .inl (.inr ⟨hn1.resolve_right (by decide), hn2⟩)).later hL⟩
theorem J5.o9 (h : J5 W0 Res D t W) {s : Gh} (hL : Later W W') (hs : s.n = W.heap.size) {y0 y1 : Value} (hb : Box W' s.n #[y0, y1] 43) : J5 W0 Res (fun j => D j ∨ j = 9) (upd t 9 s) W' :=
  ⟨h.la.trans hL, fun hd => let ⟨h1, z0, z1, z2, z3, h2, h3⟩ := h.d8 (hd.resolve_right (by decide)); ⟨h1, z0, z1, z2, z3, h2.later hL, fun h4 => h3 (h4.resolve_right (by decide))⟩,
    fun _ => ⟨by have := h.la.sz; show W0.heap.size ≤ s.n; omega, y0, y1, hb⟩, fun hd => (h.d10 (hd.resolve_right (by decide))).imp .inl .inl,
    fun hd => ((h.d3 (hd.resolve_right (by decide))).to fun n hn2 => by
      rcases hn2 with ⟨hn1, hn2⟩ | ⟨_, hn2⟩
      · exact .inl (.inl ⟨hn1.resolve_right (by decide), hn2⟩)
      · exact .inr (by rw [hn2]; exact Nat.le_of_eq hs.symm)).later hL⟩
theorem J5.o10 (h : J5 W0 Res D t W) (h8 : D 8) (h3 : D 3) {s : Gh} {z0 z1 z2 z3 : Value} (hv : (t 3).v = .agg #[z0, z1, z2, z3]) : J5 W0 Res (fun j => D j ∨ j = 10) (upd t 10 s) ((((W.setCell ⟨(t 8).n, 0, none⟩ z0).setCell ⟨(t 8).n, 1, none⟩ z1).setCell ⟨(t 8).n, 2, none⟩ z2).setCell ⟨(t 8).n, 3, none⟩ z3) := by
  obtain ⟨h1, y0, y1, y2, y3, h2, -⟩ := h.d8 h8
  have hC : Chg (fun i => i = (t 8).n) W ((((W.setCell ⟨(t 8).n, 0, none⟩ z0).setCell ⟨(t 8).n, 1, none⟩ z1).setCell ⟨(t 8).n, 2, none⟩ z2).setCell ⟨(t 8).n, 3, none⟩ z3) := (((Chg.set (S := fun i => i = (t 8).n) (.refl _ _) rfl _).set rfl _).set rfl _).set rfl _
  refine ⟨((Chg.of_later h.la).trans hC).to_later fun i hi e => by omega, fun _ => ⟨h1, z0, z1, z2, z3, h2.set4 _ _ _ _, fun _ => hv⟩, fun hd => ?_, fun _ => ⟨.inl h8, .inl h3⟩, fun _ => ?_⟩
  · obtain ⟨h4, x0, x1, h5⟩ := h.d9 (hd.resolve_right (by decide))
    exact ⟨h4, x0, x1, h5.chg hC (h5.ne h2 (by decide))⟩
  · exact ((h.d3 h3).set (hC.mono fun i _ e => .inl ⟨h8, e⟩)).to fun n hn => .inl (hn.imp (fun a => ⟨h8, a.2⟩) (fun a => ⟨a.1.resolve_right (by decide), a.2⟩))
theorem J5.o11 (h : J5 W0 Res D t W) (h9 : D 9) {s : Gh} (y0 y1 : Value) : J5 W0 Res (fun j => D j ∨ j = 11) (upd t 11 s) ((W.setCell ⟨(t 9).n, 0, none⟩ y0).setCell ⟨(t 9).n, 1, none⟩ y1) := by
  obtain ⟨h1, x0, x1, h2⟩ := h.d9 h9
  have hC : Chg (fun i => i = (t 9).n) W ((W.setCell ⟨(t 9).n, 0, none⟩ y0).setCell ⟨(t 9).n, 1, none⟩ y1) := (Chg.set (S := fun i => i = (t 9).n) (.refl _ _) rfl _).set rfl _
  refine ⟨((Chg.of_later h.la).trans hC).to_later fun i hi e => by omega, fun hd => ?_, fun _ => ⟨h1, y0, y1, h2.set2 _ _⟩, fun hd => (h.d10 (hd.resolve_right (by decide))).imp .inl .inl, fun hd => ?_⟩
  · obtain ⟨h4, z0, z1, z2, z3, h5, h6⟩ := h.d8 (hd.resolve_right (by decide))
    exact ⟨h4, z0, z1, z2, z3, h5.chg hC (h5.ne h2 (by decide)), fun h7 => h6 (h7.resolve_right (by decide))⟩
  · exact ((h.d3 (hd.resolve_right (by decide))).set (hC.mono fun i _ e => .inr ⟨h9, e⟩)).to fun n hn => .inl (hn.imp (fun a => ⟨a.1.resolve_right (by decide), a.2⟩) (fun a => ⟨h9, a.2⟩))
end
end Go.Proofs.Ytdheckfndldbmaa
