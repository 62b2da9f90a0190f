/- A region that draws its order, with calls that may change what is known to change (R), and may panic (Pn). | The arena's Take. | The arena's Take. | The arena's Retire and Give, of one entry. | The arena's Retire and Give. | New arenas, new monitors. -/
import Derived.Test.YtdheckfndldbmaaM08
namespace Go.Proofs.Ytdheckfndldbmaa.Y
open Go.RowKit

section
variable {R : Nat → World → World → Prop} {N : Nat → World → Prop} {Pn : List PanicEntry → World → Prop} {P : Program} {ops : Array Oper} {Q : Exit → Act → World → Prop} {S : World → Prop} {eff : Nat → Bool} {f : Nat → Gh → Value} {V : Nat → (Nat → Gh) → World → Prop}

def RunE (R : World → World → Prop) (Pn : List PanicEntry → World → Prop) (P : Program) (f : Gh → Value) (V : Gh → World → Prop) (W : World) : Result Next → Prop
  | .ok (.value u) W' => ∃ s, u = f s ∧ V s W' ∧ R W W'
  | .ok (.enter g args) W' => Calls P g args W' fun e W'' => (∃ s, e = .returned (f s) ∧ V s W'' ∧ R W W'') ∨ (∃ ch, e = .panicked ch ∧ Pn ch W'')
  | .ok .skip W' => ∃ s, undef = f s ∧ V s W' ∧ R W W'
  | _ => False
def OpE (R : Nat → World → World → Prop) (N : Nat → World → Prop) (Pn : List PanicEntry → World → Prop) (P : Program) (ops : Array Oper) (S : World → Prop) (eff : Nat → Bool) (f : Nat → Gh → Value) (V : Nat → (Nat → Gh) → World → Prop) (t : Nat → Gh) (k : Nat) (o : Oper) (a : Act) : Prop :=
  Region.wanted o (yielded ops a.tmps) = true ∧ ∀ W, S W → N k W → (∀ j, eff j = true → (∃ e ∈ o.after, Region.binds .any e = true ∧ e.on = j) → V j t W) → RunE (R k) Pn P (f k) (fun s => V k (upd t k s)) W ((execOp a.eval o).run P W)
/-- one operation in the text's order -/
def OpT (R : Nat → World → World → Prop) (N : Nat → World → Prop) (Pn : List PanicEntry → World → Prop) (P : Program) (ops : Array Oper) (S : World → Prop) (eff : Nat → Bool) (f : Nat → Gh → Value) (V : Nat → (Nat → Gh) → World → Prop) (t : Nat → Gh) (k : Nat) (o : Oper) (a : Act) (v : Value) : Prop :=
  if eff k = true then v = f k (t k) ∧ OpE R N Pn P ops S eff f V t k o a else OpP P ops S o a v
def SeqT (R : Nat → World → World → Prop) (N : Nat → World → Prop) (Pn : List PanicEntry → World → Prop) (P : Program) (ops : Array Oper) (S : World → Prop) (eff : Nat → Bool) (f : Nat → Gh → Value) (V : Nat → (Nat → Gh) → World → Prop) (t : Nat → Gh) : Nat → List Oper → Act → Act → Prop
  | _, [], a, af => a = af
  | k, o :: rest, a, af => ∃ v, OpT R N Pn P ops S eff f V t k o a v ∧ SeqT R N Pn P ops S eff f V t (k + 1) rest (a.put o.dst v) af

theorem SeqT.nil {t : Nat → Gh} {k : Nat} (a : Act) : SeqT R N Pn P ops S eff f V t k [] a a := rfl
theorem SeqT.val {t : Nat → Gh} {k : Nat} {o : Oper} {rest : List Oper} {a af : Act} {v : Value} (he : eff k = false) (hw : Region.wanted o (yielded ops a.tmps) = true) (h : ∀ W, S W → (execOp a.eval o).run P W = .ok (.value v) W)
    (hr : SeqT R N Pn P ops S eff f V t (k + 1) rest (a.put o.dst v) af) : SeqT R N Pn P ops S eff f V t k (o :: rest) a af := ⟨v, by simp only [OpT, he, Bool.false_eq_true, if_false]; exact .inl ⟨hw, h⟩, hr⟩
theorem SeqT.skip {t : Nat → Gh} {k : Nat} {o : Oper} {rest : List Oper} {a af : Act} (he : eff k = false) (hw : Region.wanted o (yielded ops a.tmps) = false)
    (hr : SeqT R N Pn P ops S eff f V t (k + 1) rest (a.put o.dst undef) af) : SeqT R N Pn P ops S eff f V t k (o :: rest) a af := ⟨undef, by simp only [OpT, he, Bool.false_eq_true, if_false]; exact .inr ⟨hw, rfl⟩, hr⟩
theorem SeqT.call {t : Nat → Gh} {k : Nat} {o : Oper} {rest : List Oper} {a af : Act} {g : FuncId} {args : Array Value} (v : Value) (he : eff k = true) (hw : Region.wanted o (yielded ops a.tmps) = true)
    (hv : f k (t k) = v) (hx : ∀ W, S W → (execOp a.eval o).run P W = .ok (.enter g args) W)
    (h : ∀ W, S W → N k W → (∀ j, eff j = true → (∃ e ∈ o.after, Region.binds .any e = true ∧ e.on = j) → V j t W) → Calls P g args W fun e W' => (∃ s, e = .returned (f k s) ∧ V k (upd t k s) W' ∧ R k W W') ∨ (∃ ch, e = .panicked ch ∧ Pn ch W'))
    (hr : SeqT R N Pn P ops S eff f V t (k + 1) rest (a.put o.dst v) af) : SeqT R N Pn P ops S eff f V t k (o :: rest) a af :=
  ⟨v, by simp only [OpT, he, if_true]; exact ⟨hv.symm, hw, fun W hW hN hj => by rw [hx W hW]; exact h W hW hN hj⟩, hr⟩
/-- an alloc, or another builtin that makes a new block -/
theorem SeqT.make {t : Nat → Gh} {k : Nat} {o : Oper} {rest : List Oper} {a af : Act} (v : Value) (he : eff k = true) (hw : Region.wanted o (yielded ops a.tmps) = true)
    (hv : f k (t k) = v) (h : ∀ W, S W → N k W → (∀ j, eff j = true → (∃ e ∈ o.after, Region.binds .any e = true ∧ e.on = j) → V j t W) → ∃ s W', (execOp a.eval o).run P W = .ok (.value (f k s)) W' ∧ V k (upd t k s) W' ∧ R k W W')
    (hr : SeqT R N Pn P ops S eff f V t (k + 1) rest (a.put o.dst v) af) : SeqT R N Pn P ops S eff f V t k (o :: rest) a af :=
  ⟨v, by simp only [OpT, he, if_true]; exact ⟨hv.symm, hw, fun W hW hN hj => by obtain ⟨s, W', h1, h2, h3⟩ := h W hW hN hj; rw [h1]; exact ⟨s, rfl, h2, h3⟩⟩, hr⟩

/-- a store -/
theorem SeqT.store {t : Nat → Gh} {k : Nat} {o : Oper} {rest : List Oper} {a af : Act} (he : eff k = true) (hw : Region.wanted o (yielded ops a.tmps) = true)
    (hv : ∀ s, f k s = undef) (h : ∀ W, S W → N k W → (∀ j, eff j = true → (∃ e ∈ o.after, Region.binds .any e = true ∧ e.on = j) → V j t W) → ∃ W', (execOp a.eval o).run P W = .ok .skip W' ∧ V k (upd t k default) W' ∧ R k W W')
    (hr : SeqT R N Pn P ops S eff f V t (k + 1) rest (a.put o.dst undef) af) : SeqT R N Pn P ops S eff f V t k (o :: rest) a af :=
  ⟨undef, by simp only [OpT, he, if_true]; exact ⟨(hv _).symm, hw, fun W hW hN hj => by obtain ⟨W', h1, h2, h3⟩ := h W hW hN hj; rw [h1]; exact ⟨default, (hv _).symm, h2, h3⟩⟩, hr⟩

theorem SeqT.vals (hk : OkL ops) {t : Nat → Gh} : ∀ (rest : List Oper) (k : Nat) (a af : Act), (∀ j, j < rest.length → rest[j]? = ops[k + j]?) → SeqT R N Pn P ops S eff f V t k rest a af → ∀ (vals : Nat → Value) (a0 : Act), At ops vals a0 (fun i => i < k) a →
    ∃ vals' : Nat → Value, (∀ i, i < k → vals' i = vals i) ∧ At ops vals' a0 (fun i => i < k + rest.length) af ∧
      ∀ (i : Nat) (o : Oper), ops[i]? = some o → k ≤ i → i < k + rest.length → ∃ b, At ops vals' a0 (fun j => j < i) b ∧ OpT R N Pn P ops S eff f V t i o b (vals' i)
  | [], k, a, af, hl, h, vals, a0, hA => by
    obtain rfl : a = af := h
    exact ⟨vals, fun _ _ => rfl, by simpa using hA, fun i o ho hki hlt => by simp at hlt; omega⟩
  | o :: rest, k, a, af, hl, h, vals, a0, hA => by
    obtain ⟨v, hv, hr⟩ := h
    have hok : ops[k]? = some o := by have := hl 0 (by simp); simpa using this.symm
    let vals1 : Nat → Value := fun i => if i = k then v else vals i
    have hA1 : At ops vals1 a0 (fun i => i < k) a := ⟨hA.size, hA.defers, fun i oi d hi hd hD => by
      have hne : i ≠ k := by omega
      simp only [vals1, if_neg hne]; exact hA.did i oi d hi hd hD, hA.not⟩
    have hA2 : At ops vals1 a0 (fun i => i < k + 1) (a.put o.dst v) := by
      have h2 := hA1.put hk hok
      have hv1 : vals1 k = v := by simp [vals1]
      rw [hv1] at h2
      refine ⟨h2.size, h2.defers, fun i oi d hi hd hD => h2.did i oi d hi hd (by omega), fun d hn => h2.not d fun i oi hi hd hD => hn i oi hi hd (by omega)⟩
    obtain ⟨vals', h1, h2, h3⟩ := SeqT.vals hk rest (k + 1) (a.put o.dst v) af (fun j hj => by have := hl (j + 1) (by simp; omega); rw [show k + 1 + j = k + (j + 1) by omega, ← this]; rfl) hr vals1 a0 hA2
    have hvk : vals' k = v := by rw [h1 k (by omega)]; simp [vals1]
    refine ⟨vals', fun i hi => by rw [h1 i (by omega)]; simp [vals1]; omega, by rw [show k + (o :: rest).length = k + 1 + rest.length by simp; omega]; exact h2, fun i oi hi hki hlt => ?_⟩
    by_cases hik : i = k
    · subst hik
      rw [hok] at hi; cases hi
      refine ⟨a, ⟨hA1.size, hA1.defers, fun j oj d hj hd hD => ?_, hA1.not⟩, by rw [hvk]; exact hv⟩
      rw [h1 j (by omega)]
      exact hA1.did j oj d hj hd hD
    · exact h3 i oi hi (by omega) (by simp at hlt; omega)

/-- what has come up does not hang on what has not -/
theorem vals_agree (hk : OkL ops) {a0 : Act} {n : Nat} {val : (Nat → Gh) → Nat → Value} {W : World} (hS : S W)
    (hv : ∀ t (i : Nat) (o : Oper), ops[i]? = some o → i < n → ∃ b, At ops (val t) a0 (fun j => j < i) b ∧ OpT R N Pn P ops S eff f V t i o b (val t i))
    {D : Nat → Prop} (hcl : ∀ j, D j → ∀ o, ops[j]? = some o → ∀ e ∈ o.after, Region.binds .any e = true → D e.on) {i0 : Nat} (hi0 : ¬ D i0) {t t' : Nat → Gh} (ht : ∀ j, j ≠ i0 → t j = t' j) :
    ∀ j, j < n → D j → j < ops.size → val t j = val t' j := by
  intro j
  induction j using Nat.strongRecOn with
  | _ j ih =>
    intro hj hD hjs
    have ho : ops[j]? = some ops[j] := by simp [hjs]
    obtain ⟨b, hb, h1⟩ := hv t j _ ho hj
    obtain ⟨b', hb', h2⟩ := hv t' j _ ho hj
    have hne : j ≠ i0 := fun e => hi0 (e ▸ hD)
    cases he : eff j with
    | true =>
      simp only [OpT, he, if_true] at h1 h2
      rw [h1.1, h2.1, ht j hne]
    | false =>
      simp only [OpT, he, Bool.false_eq_true, if_false] at h1 h2
      obtain ⟨hx, hw⟩ := same_exec hk ho (At.alike hk hb hb' ho (fun e he hb => hk.ahead j _ ho e he hb) (fun e he hb => hk.ahead j _ ho e he hb)
        (fun e he hbd => by
          have hlt := hk.ahead j _ ho e he hbd
          exact ih e.on hlt (by omega) (hcl j hD _ ho e he hbd) (by omega)))
      rcases h1 with ⟨w1, r1⟩ | ⟨w1, r1⟩ <;> rcases h2 with ⟨w2, r2⟩ | ⟨w2, r2⟩
      · have e1 := r1 W hS
        rw [hx, r2 W hS] at e1
        simpa using e1.symm
      · rw [hw, w2] at w1; cases w1
      · rw [hw, w2] at w1; cases w1
      · rw [r1, r2]

theorem wpAny_of_T (hk : OkL ops) {a0 : Act} {n : Nat} {af : (Nat → Gh) → Act} {val : (Nat → Gh) → Nat → Value} (hn : n ≤ ops.size) (htail : tailOk n ops = true)
    (hSL : ∀ i W W', S W → R i W W' → S W') (hVL : ∀ i j t W W', i ≠ j → V j t W → R i W W' → V j t W') (hNL : ∀ i j W W', i ≠ j → N j W → R i W W' → N j W') (hloc : ∀ j t t' W, j < ops.size → t j = t' j → (∀ k, (mk1 ops j).testBit k = true → t k = t' k) → V j t W → V j t' W)
    (hf0 : ∀ t, At ops (val t) a0 (fun i => i < n) (af t))
    (hv : ∀ t (i : Nat) (o : Oper), ops[i]? = some o → i < n → ∃ b, At ops (val t) a0 (fun j => j < i) b ∧ OpT R N Pn P ops S eff f V t i o b (val t i))
    (hQ : ∀ t W, S W → (∀ j, j < n → eff j = true → V j t W) → wpList P ops Q (ops.toList.drop n) (af t) W) (hP : ∀ ch a W, a.defers = a0.defers → Pn ch W → Q (.panic ch) a W) :
    ∀ (fuel : Nat) (listed : Array Bool) (a : Act) (w : World) (t : Nat → Gh), listed.size = ops.size → leftL listed ≤ fuel → listed.getD n false = false →
      (∀ j, listed.getD j false = true → ∀ o, ops[j]? = some o → ∀ e ∈ o.after, Region.binds .any e = true → listed.getD e.on false = true) →
      At ops (val t) a0 (fun i => listed.getD i false = true) a → S w → (∀ j, j < n → listed.getD j false = true → eff j = true → V j t w) → (∀ j, j < n → ¬ listed.getD j false = true → eff j = true → N j w) → wpAny P .any ops Q fuel listed a w := by
  -- nothing is ready only when all is listed
  have done : ∀ (listed : Array Bool), listed.size = ops.size → Region.ready .any ops listed = [] → ∀ i, i < ops.size → listed.getD i false = true := by
    intro listed hsz hr i hi
    induction i using Nat.strongRecOn with
    | _ i ih =>
      cases hc : listed.getD i false with
      | true => rfl
      | false =>
        exfalso
        have hmem : i ∈ Region.ready .any ops listed := mem_ready.2 ⟨by
          have : i < listed.size := by omega
          simp [this] at hc ⊢; exact hc, ops[i], by simp [hi], fun e he hb => by
            have hlt := hk.ahead i ops[i] (by simp [hi]) e he hb
            exact ih e.on hlt (by omega)⟩
        rw [hr] at hmem
        cases hmem
  -- all of the front has come up: the tail
  have front : ∀ (fuel : Nat) (listed : Array Bool) (a : Act) (w : World) (t : Nat → Gh), listed.size = ops.size → ops.size - n ≤ fuel → (∀ j, listed.getD j false = true ↔ j < n) →
      At ops (val t) a0 (fun i => listed.getD i false = true) a → S w → (∀ j, j < n → listed.getD j false = true → eff j = true → V j t w) → wpAny P .any ops Q fuel listed a w := by
    intro fuel listed a w t hsz hf hD hA hS hVt
    obtain rfl : a = af t := hA.eq (hf0 t) fun j _ => hD j
    exact wpAny_tail hk htail fuel n listed _ w (Nat.le_refl _) hn hsz hf hD (hQ t w hS fun j hj he => hVt j hj ((hD j).2 hj) he)
  have left_ge : ∀ (listed : Array Bool), listed.size = ops.size → (∀ j, listed.getD j false = true ↔ j < n) → ops.size - n ≤ leftL listed := by
    intro listed hsz hD
    unfold leftL
    rw [hsz]
    have : ((List.range ops.size).filter fun i => !listed.getD i true) = (List.range ops.size).filter fun i => decide (n ≤ i) := by
      refine List.filter_congr fun i hi => ?_
      have hi' := List.mem_range.1 hi
      have h1 := hD i
      have hlt : i < listed.size := by omega
      simp [hlt] at h1 ⊢
      by_cases hn' : i < n
      · rw [h1.2 hn']; simp; omega
      · have : listed[i] = false := by cases h : listed[i] with | true => exact absurd (h1.1 h) hn' | false => rfl
        rw [this]; simp; omega
    rw [this]
    clear this
    have hrange : ∀ (s : Nat), s - n ≤ ((List.range s).filter fun i => decide (n ≤ i)).length := by
      intro s
      induction s with
      | zero => simp
      | succ s ihs =>
        rw [List.range_succ, List.filter_append, List.length_append]
        by_cases h : n ≤ s
        · simp [h]; omega
        · omega
    exact hrange _
  intro fuel
  induction fuel with
  | zero =>
    intro listed a w t hsz hl hln hcl hA hS hVt hNt
    have hr : Region.ready .any ops listed = [] := by
      refine List.eq_nil_iff_forall_not_mem.2 fun i hi => ?_
      have := leftL_set listed i (mem_ready.1 hi).1
      omega
    have hall := done listed hsz hr
    have hns : n = ops.size := by
      by_cases h : n = ops.size
      · exact h
      · have := hall n (by omega)
        rw [hln] at this; cases this
    refine front 0 listed a w t hsz (by omega) (fun j => ⟨fun h => ?_, fun h => hall j (by omega)⟩) hA hS hVt
    by_cases hj : j < listed.size
    · omega
    · simp [hj] at h
  | succ fuel ih =>
    intro listed a w t hsz hl hln hcl hA hS hVt hNt
    by_cases hfull : ∀ j, j < n → listed.getD j false = true
    · have hD : ∀ j, listed.getD j false = true ↔ j < n := fun j => ⟨fun h => by
        by_cases hj : j < n
        · exact hj
        · exfalso
          by_cases hjs : j < ops.size
          · have ho : ops[j]? = some ops[j] := by simp [hjs]
            have := tailOk_spec hk htail (D := fun j => listed.getD j false = true) hcl (i := j) (by omega) ho (fun e he hb => hcl j h _ ho e he hb) n
            by_cases hjn : j = n
            · subst hjn; rw [hln] at h; cases h
            · have := this (by omega); rw [hln] at this; cases this
          · have hj2 : ¬ j < listed.size := by omega
            simp [hj2] at h, hfull j⟩
      exact front (fuel + 1) listed a w t hsz (by have := left_ge listed hsz hD; omega) hD hA hS hVt
    refine ⟨fun hr => ?_, fun i hi => ?_⟩
    · exfalso
      refine hfull fun j hj => done listed hsz hr j (by omega)
    obtain ⟨hun, o, ho, hall⟩ := mem_ready.1 hi
    have his : i < ops.size := (Array.getElem?_eq_some_iff.1 ho).1
    have hlt : i < listed.size := by omega
    have heq : ∀ j, (listed.setIfInBounds i true).getD j false = true ↔ (listed.getD j false = true ∨ j = i) := fun j => by
      by_cases hji : j = i
      · subst hji; simp [hlt]
      · rw [getD_set_ne false (Ne.symm hji)]; simp [hji]
    have hni : ¬ listed.getD i false = true := by
      intro h
      have h2 : listed.getD i true = false := hun
      simp [hlt] at h h2
      rw [h] at h2; cases h2
    have hin' : i < n := by
      by_cases h : i < n
      · exact h
      · exact absurd (fun j hj => tailOk_spec hk htail (D := fun j => listed.getD j false = true) hcl (i := i) (by omega) ho hall j (by omega)) hfull
    have hin : i ≠ n := by omega
    obtain ⟨b, hb, hop⟩ := hv t i o ho hin'
    obtain ⟨hx, hw⟩ := same_exec hk ho (At.alike hk hb hA ho (fun e he hbd => hk.ahead i o ho e he hbd) hall (fun _ _ _ => rfl))
    have hln' : (listed.setIfInBounds i true).getD n false = false := by rw [getD_set_ne false hin]; exact hln
    have hcl' : ∀ j, (listed.setIfInBounds i true).getD j false = true → ∀ o, ops[j]? = some o → ∀ e ∈ o.after, Region.binds .any e = true → (listed.setIfInBounds i true).getD e.on false = true := by
      intro j hj oj hoj e he hbd
      refine (heq _).2 (.inl ?_)
      rcases (heq j).1 hj with h | h
      · exact hcl j h oj hoj e he hbd
      · subst h; rw [ho] at hoj; cases hoj; exact hall e he hbd
    have hleft : leftL (listed.setIfInBounds i true) ≤ fuel := by
      have := leftL_set listed i (mem_ready.1 hi).1
      omega
    unfold Go.wpOp
    simp only [ho]
    cases he : eff i with
    | false =>
      simp only [OpT, he, Bool.false_eq_true, if_false] at hop
      have hput : At ops (val t) a0 (fun j => (listed.setIfInBounds i true).getD j false = true) (a.put o.dst (val t i)) := by
        have h2 := hA.put hk ho
        exact ⟨h2.size, h2.defers, fun j oj d hj hd hD => h2.did j oj d hj hd ((heq j).1 hD), fun d hn => h2.not d fun j oj hj hd hD => hn j oj hj hd ((heq j).2 hD)⟩
      have hVt' : ∀ j, j < n → (listed.setIfInBounds i true).getD j false = true → eff j = true → V j t w := fun j hj hD hej => by
        rcases (heq j).1 hD with h | h
        · exact hVt j hj h hej
        · subst h; rw [he] at hej; cases hej
      have hgo := ih (listed.setIfInBounds i true) _ w t (by simp [hsz]) hleft hln' hcl' hput hS hVt' (fun j hj hD hej => hNt j hj (fun h => hD ((heq j).2 (.inl h))) hej)
      rcases hop with ⟨w1, r1⟩ | ⟨w1, r1⟩
      · rw [← hw, w1, if_pos rfl]
        refine .inl ?_
        unfold Oper.wp
        rw [← hx, r1 w hS]
        exact hgo
      · rw [← hw, w1, if_neg (by simp)]
        rw [← r1]
        exact hgo
    | true =>
      simp only [OpT, he, if_true] at hop
      obtain ⟨-, w1, r1⟩ := hop
      rw [← hw, w1, if_pos rfl]
      refine .inl ?_
      unfold Oper.wp
      rw [← hx]
      have hr := r1 w hS (hNt i hin' hni he) fun j hej ⟨e, hee, hbd, hon⟩ => by
        subst hon
        exact hVt e.on (by have := hk.ahead i o ho e hee hbd; omega) (hall e hee hbd) hej
      -- behind it: the ghost of i is what has come of it
      have key : ∀ (s : Gh) (W' : World), V i (upd t i s) W' → R i w W' → wpAny P .any ops Q fuel (listed.setIfInBounds i true) (a.put o.dst (f i s)) W' := by
        intro s W' hVs hL
        have hag := vals_agree (R := R) (N := N) (Pn := Pn) (P := P) (S := S) (eff := eff) (f := f) (V := V) hk (val := val) hS hv (D := fun j => listed.getD j false = true) hcl hni (t := t) (t' := upd t i s) (fun j hj => by simp [upd, hj])
        have hvi : val (upd t i s) i = f i s := by
          obtain ⟨b', _, h'⟩ := hv (upd t i s) i o ho hin'
          simp only [OpT, he, if_true] at h'
          rw [h'.1]; simp [upd]
        have hA' : At ops (val (upd t i s)) a0 (fun j => listed.getD j false = true) a := ⟨hA.size, hA.defers, fun j oj d hj hd hD => by
          have hjs : j < ops.size := (Array.getElem?_eq_some_iff.1 hj).1
          have hjn : j < n := by
            by_cases hj2 : j < n
            · exact hj2
            · exfalso
              by_cases hjn : j = n
              · subst hjn; rw [hln] at hD; cases hD
              · have h3 := tailOk_spec hk htail (D := fun j => listed.getD j false = true) hcl (i := j) (by omega) hj (fun e he hb => hcl j hD _ hj e he hb) n (by omega)
                rw [hln] at h3; cases h3
          rw [← hag j hjn hD hjs]; exact hA.did j oj d hj hd hD, hA.not⟩
        have h2 := hA'.put hk ho
        rw [hvi] at h2
        refine ih (listed.setIfInBounds i true) _ W' (upd t i s) (by simp [hsz]) hleft hln' hcl' ⟨h2.size, h2.defers, fun j oj d hj hd hD => h2.did j oj d hj hd ((heq j).1 hD), fun d hn => h2.not d fun j oj hj hd hD => hn j oj hj hd ((heq j).2 hD)⟩ (hSL _ _ _ hS hL) (fun j hj hD hej => ?_) (fun j hj hD hej => hNL i j _ _ (fun e => hD ((heq j).2 (.inr e.symm))) (hNt j hj (fun h => hD ((heq j).2 (.inl h))) hej) hL)
        by_cases hji : j = i
        · subst hji; exact hVs
        · rcases (heq j).1 hD with h | h
          · have hjs : j < ops.size := by omega
            refine hloc j t (upd t i s) W' hjs (by simp [upd, hji]) (fun k hk2 => ?_) (hVL i j _ _ _ (fun e => hji e.symm) (hVt j hj h hej) hL)
            have hkD := anc_closed hk (D := fun j => listed.getD j false = true) hcl j ops[j] (by simp [hjs]) (fun e he hb => hcl j h _ (by simp [hjs]) e he hb) k hk2
            have hki : k ≠ i := fun e => hni (e ▸ hkD)
            simp [upd, hki]
          · exact absurd h hji
      generalize (execOp b.eval o).run P w = r at *
      cases r with
      | ok nx w' =>
        cases nx <;> simp only [RunE] at hr <;> simp only [Oper.upon]
        case value u => obtain ⟨s, rfl, h2, h3⟩ := hr; exact key s w' h2 h3
        case skip =>
          obtain ⟨s, h1, h2, h3⟩ := hr
          have := key s w' h2 h3
          rwa [← h1] at this
        case enter g args =>
          refine hr.mono fun e w'' h => ?_
          rcases h with ⟨s, rfl, h2, h3⟩ | ⟨ch, rfl, h2⟩
          · exact key s w'' h2 h3
          · exact hP _ _ _ hA.defers h2
      | halt x w' => exact hr.elim

/-- **THE REGION**: walk the first n once, in the text's order, for every ghost; the others come in the text's order. -/
theorem region_full {id : Nat} {l : List Oper} {a : Act} {w : World} (n : Nat) (f : Nat → Gh → Value) (V : Nat → (Nat → Gh) → World → Prop) (eff : Nat → Bool) (use : Nat → List Nat) {af : (Nat → Gh) → Act} (hm : P.follows .mixedOrders = true) (hk : okL l.toArray = true) (huse : useOk l.toArray use = true) (hn : n ≤ l.length) (htail : tailOk n l.toArray = true)
    (hd : ∀ w, S w → S w.drew) (hw : S w) (hSL : ∀ i W W', S W → R i W W' → S W') (hVL : ∀ i j t W W', i ≠ j → V j t W → R i W W' → V j t W') (hNL : ∀ i j W W', i ≠ j → N j W → R i W W' → N j W')
    (hloc : ∀ j t t' W, t j = t' j → (∀ k, k ∈ use j → t k = t' k) → V j t W → V j t' W) (hN0 : ∀ j, eff j = true → N j w.drew) (h : ∀ t, SeqT R N Pn P l.toArray S eff f V t 0 (l.take n) a (af t))
    (hP : ∀ ch a' W, a'.defers = a.defers → Pn ch W → Q (.panic ch) a' W) (hQ : ∀ t W, S W → (∀ j, j < n → eff j = true → V j t W) → wpList P l.toArray Q (l.drop n) (af t) W) : (Code.region id l.toArray true).wp P Q a w := by
  have hk := okL_spec hk
  have hloc' : ∀ j t t' W, j < l.toArray.size → t j = t' j → (∀ k, (mk1 l.toArray j).testBit k = true → t k = t' k) → V j t W → V j t' W := fun j t t' W hj h1 h2 hV =>
    hloc j t t' W h1 (fun k hku => h2 k (List.all_eq_true.1 (List.all_eq_true.1 huse j (List.mem_range.2 hj)) k hku)) hV
  have hln : (l.take n).length = n := by rw [List.length_take]; omega
  have hex := fun t => SeqT.vals hk (l.take n) 0 a (af t) (fun j hj => by rw [hln] at hj; simp [List.getElem?_take, hj]) (h t) (fun _ => undef) a ⟨rfl, rfl, fun _ _ _ _ _ h => by omega, fun _ _ => rfl⟩
  obtain ⟨val, hval⟩ := Classical.axiomOfChoice hex
  refine wp_region_any hm ?_
  have hrep : ∀ j, ¬ (Array.replicate l.toArray.size false).getD j false = true := fun j hj => by
    by_cases h : j < l.toArray.size
    · simp at h; simp [h] at hj
    · simp at h; simp [h] at hj
  refine wpAny_of_T hk (n := n) (val := val) (a0 := a) (af := af) (by simpa using hn) htail hSL hVL hNL hloc' (fun t => by have := (hval t).2.1; rw [hln] at this; simpa using this) (fun t i o hi hlt => (hval t).2.2 i o hi (Nat.zero_le _) (by rw [hln]; omega)) (fun t W hS hV => by simpa using hQ t W hS hV) hP _ _ a _ (fun _ => default) (by simp) ?_ ?_ ?_ ?_ (hd w hw) ?_ (fun j _ _ hej => hN0 j hej)
  · unfold leftL
    refine Nat.le_trans (List.length_filter_le _ _) (by simp)
  · have := hrep n; simpa using this
  · exact fun j hj => absurd hj (hrep j)
  · exact ⟨rfl, rfl, fun i o d hi hd' hD => absurd hD (hrep i), fun _ _ => rfl⟩
  · exact fun j hj hD => absurd hD (hrep j)
end
end Go.Proofs.Ytdheckfndldbmaa.Y
namespace Go.Proofs.Ytdheckfndldbmaa
/-! one operation with an effect -/
def oneR (p : Nat) (T : World → World → Prop) (k : Nat) (W W' : World) : Prop := k = p ∧ T W W'
def oneP (p : Nat) (I : World → Prop) (k : Nat) (W : World) : Prop := k = p → I W
def oneE (p i : Nat) : Bool := i == p
theorem oneVL {p : Nat} {I : World → Prop} {T : World → World → Prop} : ∀ (i j : Nat) (_ : Nat → Gh) (W W' : World), i ≠ j → oneP p I j W → oneR p T i W W' → oneP p I j W' := fun _ _ _ _ _ hij _ hR hj => absurd (hR.1.trans hj.symm) hij
theorem oneNL {p : Nat} {I : World → Prop} {T : World → World → Prop} : ∀ (i j : Nat) (W W' : World), i ≠ j → oneP p I j W → oneR p T i W W' → oneP p I j W' := fun _ _ _ _ hij _ hR hj => absurd (hR.1.trans hj.symm) hij
end Go.Proofs.Ytdheckfndldbmaa

namespace Go.Proofs.Ytdheckfndldbmaa
open Go.RowKit
attribute [local go_sem] merge_t merge_f merge_a merge_o

theorem Chg.drew {S : Nat → Prop} {w w' : World} (h : Chg S w w') : Chg S w w'.drew := h.later ((Later.refl _).drew)
/-- cells that are read as long as only S changes -/
theorem celS {S : Nat → Prop} {w : World} {b o : Nat} {v : Value} (hb : ¬ S b) (h : w.cell? ⟨b, o, none⟩ = some v) : ∀ W, Chg S w W → W.cell? ⟨b, o, none⟩ = some v := fun _ hW => hW.cell h hb

/-- the taking: what it leaves in the row that collects -/
def TookAt (B0 bl : Nat) (xs ys : List E2) (W : World) : Prop :=
  ∃ i L lc, freeD xs = some i ∧ ys = xs.set i (1, (xs[i]?.getD (0, 0)).2) ∧ Box W bl #[.slice L 1 lc] 54 ∧ W.ownsRow B0 43 2 (.slice L 1 lc) 1 (flat encE [((i : Int), (xs[i]?.getD (0, 0)).2)])

def tkR (D k : Nat) (W W' : World) : Prop := if k = 2 then Chg (fun i => i = D) W W' else Later W W'
def tkN (hb D n : Nat) (xs : List E2) (k : Nat) (W : World) : Prop := k = 2 → HandAt W hb D n xs
def tkV (w : World) (hb D n : Nat) (ys : List E2) (e : E2) : Nat → (Nat → Gh) → World → Prop
  | 2, _, W => HandAt W hb D n ys
  | 3, t, W => w.heap.size ≤ (t 3).n ∧ Box W (t 3).n #[.int .i64 e.1, .int .u64 e.2] 43
  | _, _, _ => True
def tkF (e : E2) : Nat → Gh → Value
  | 2, _ => .agg #[.int .i64 e.1, .int .u64 e.2]
  | _, s => .slice (some ⟨s.n, 0, none⟩) 1 1
def tkE (i : Nat) : Bool := i == 2 || i == 3
theorem tkSL (D : Nat) (w : World) : ∀ i W W', Chg (fun i => i = D) w W → tkR D i W W' → Chg (fun i => i = D) w W' := fun i W W' h hR => by
  unfold tkR at hR; split at hR
  · exact h.trans hR
  · exact h.later hR
theorem tkVL {w : World} {hb D n : Nat} {ys : List E2} {e : E2} (hD : D < w.heap.size) : ∀ i j t W W', i ≠ j → tkV w hb D n ys e j t W → tkR D i W W' → tkV w hb D n ys e j t W' := fun i j t W W' hij h hR => by
  unfold tkV at *
  split at h
  · unfold tkR at hR
    rw [if_neg hij] at hR
    exact h.later hR
  · refine ⟨h.1, ?_⟩
    unfold tkR at hR; split at hR
    · exact h.2.chg hR (by omega)
    · exact h.2.later hR
  · trivial
theorem tkNL {hb D n : Nat} {xs : List E2} : ∀ i j W W', i ≠ j → tkN hb D n xs j W → tkR D i W W' → tkN hb D n xs j W' := fun i j W W' hij h hR => by
  intro hj
  unfold tkR at hR
  rw [if_neg (by omega)] at hR
  exact (h hj).later hR
theorem tkLoc {w : World} {hb D n : Nat} {ys : List E2} {e : E2} : ∀ j (t t' : Nat → Gh) W, t j = t' j → (∀ k, k ∈ gU0 j → t k = t' k) → tkV w hb D n ys e j t W → tkV w hb D n ys e j t' W := by
  intro j t t' W h _ hV
  unfold tkV at *
  split at hV <;> simp_all

set_option maxRecDepth 100000 in
set_option maxHeartbeats 4000000 in
theorem takeClo_c (B0 hb D n bm bl : Nat) (xs : List E2) (w : World) (hB0 : B0 ≤ w.heap.size) (hn2 : 2 ≤ n) (hH : HandAt w hb D n xs) (hm : Box w bm #[.int .i64 1] 3) (hl : Box w bl #[.slice none 0 0] 54) :
    Calls Try.prog 88 (#[.pointer (some ⟨hb, 0, none⟩)] ++ #[.pointer (some ⟨bm, 0, none⟩), .pointer (some ⟨bl, 0, none⟩)]) w fun r W' => Chg (fun i => i = D ∨ i = bl) w W' ∧
      ((r = .returned (.tuple #[]) ∧ ∃ ys, HandAt W' hb D n ys ∧ TookAt B0 bl xs ys W') ∨ (∃ k, r = .panicked (errChain k) ∧ (k = 6 ∧ freeD xs = none))) := by
  have h0 := cel (hH.1.cell (i := 0) rfl)
  have m0 := cel (hm.cell (i := 0) rfl)
  have hn := hH.2.2.2
  have HH := Lib.hid hH
  have HL := Lib.hid hl
  have HM := Lib.hid hm
  have hd1 : decide ((1 : Int) ≤ n) = true := by simp; omega
  clear hH hl hm
  go_enter Try.func88, Try.ntmps88
  go_wp2_with (go_at_call 89; (with_reducible refine (aneed_yes _ _).mono ?_); rintro e w9 ⟨rfl, rfl⟩)
  refine region_ghost (S := Later w) (af := ?_) 8 gF0 gV0 gE0 gU0 (by kernel_rfl) (by kernel_rfl) (by kernel_rfl) (by decide) (by kernel_rfl) (fun _ h => h.drew) (Later.refl _) (fun _ _ h h2 => h.trans h2) gL0 gO0 ?_ ?_
  rotate_left
  · intro t
    repeat (first
      | (refine SeqT.val (v := ?_) (by rfl) (by rfl) (fun W hW => ?_) ?_; rotate_left; (· (go_simp; try with_reducible rfl)); try simp only [Act.put, List.setIfInBounds_toArray, List.set_cons_zero, List.set_cons_succ])
      | (refine SeqT.skip (by rfl) (by rfl) ?_; try simp only [Act.put, List.setIfInBounds_toArray, List.set_cons_zero, List.set_cons_succ])
      )
    exact SeqT.nil _
  intro t W hW hV
  refine wpList_is (l' := [_]) rfl ?_
  clear hV
  generalize W = Wl at *
  have hWl := hW
  clear hW
  go_wp2_with (go_at_call 89; (with_reducible refine (aneed_yes _ _).mono ?_); rintro e w9 ⟨rfl, rfl⟩)
  have HLW := Lib.hid (HL.out.later hWl)
  have HHW := Lib.hid (HH.out.later hWl)
  have m0W := celw hWl m0
  have hDl : D < Wl.heap.size := (HH.out.later hWl).2.1.lt
  have hne : bl ≠ D := HL.out.ne HH.out.2.1 (by decide)
  go_loopw [17] (fun i wr => (i = .int .i64 0 ∧ Later Wl wr) ∨ (i = .int .i64 1 ∧ Chg (fun i => i = D ∨ i = bl) Wl wr ∧ ∃ ys, HandAt wr hb D n ys ∧ TookAt B0 bl xs ys wr)) (fun i _ => 1 - (intOf i).toNat)
  case atStart => exact .inl ⟨rfl, Later.refl _⟩
  case round =>
    rcases hrel with ⟨rfl, hLr⟩ | ⟨rfl, hC, ys, hY, hT⟩
    · have hDr : D < wr.heap.size := Nat.lt_of_lt_of_le hDl hLr.sz
      have HLr := Lib.hid (HLW.out.later hLr)
      have HHr := Lib.hid (HHW.out.later hLr)
      have l0 : ∀ V, Chg (fun i => i = D) wr V → V.cell? ⟨bl, 0, none⟩ = some (.slice none 0 0) := celS hne ((HLW.out.later hLr).cell (i := 0) rfl)
      cases hF : freeD xs with
      | none =>
        have HF := Lib.hid hF
        clear hF
        go_wp2
        refine Y.region_full (S := (Chg (fun i => i = D) wr)) (R := (tkR D)) (N := (tkN hb D n xs)) (Pn := (fun ch V => ch = errChain 6 ∧ Chg (fun i => i = D) wr V)) (af := ?_) 4 (tkF (0, 0)) (fun j _ _ => j ≠ 2) tkE gU0 (by kernel_rfl) (by kernel_rfl) (by kernel_rfl) (by decide) (by kernel_rfl) (fun _ h => h.drew) (Chg.refl _ _) (tkSL D wr) (fun _ _ _ _ _ _ h _ => h) tkNL (fun _ _ _ _ _ _ h => h) (fun _ _ _ => HHr.out) ?_ ?_ ?_
        rotate_left
        · intro t
          repeat (first
            | (refine Y.SeqT.val (v := ?_) (by rfl) (by rfl) (fun W hW => ?_) ?_; rotate_left; (· (go_simp; try with_reducible rfl)); try simp only [Act.put, List.setIfInBounds_toArray, List.set_cons_zero, List.set_cons_succ])
            | (refine Y.SeqT.skip (by rfl) (by rfl) ?_; try simp only [Act.put, List.setIfInBounds_toArray, List.set_cons_zero, List.set_cons_succ])
            | (refine Y.SeqT.call (g := ?_) (args := ?_) (.agg #[.int .i64 0, .int .u64 0]) (by rfl) (by rfl) (by rfl) (fun W hW => ?_) (fun W hW hN hd => ?_) ?_; rotate_left 2; (· (go_simp; first | with_reducible rfl | (refine ⟨?_, ?_⟩ <;> with_reducible rfl))); (· (exact (htake_c hb D n xs W (hN rfl)).mono fun e W2 h => .inr (by unfold TakeP at h; rw [HF.out] at h; exact ⟨_, h.1, rfl, hW.later h.2⟩))); try simp only [Act.put, List.setIfInBounds_toArray, List.set_cons_zero, List.set_cons_succ])
            | (refine Y.SeqT.make (.slice (some ⟨(t 3).n, 0, none⟩) 1 1) (by rfl) (by rfl) (by rfl) (fun W hW hN hd => ?_) ?_; (· (exact ⟨⟨none, W.heap.size, 0, undef⟩, W.alloc (.cells #[.int .i64 0, .int .u64 0] 43), by go_simp; first | rfl | exact ⟨rfl, rfl⟩, by decide, (Later.refl W).alloc _⟩)); try simp only [Act.put, List.setIfInBounds_toArray, List.set_cons_zero, List.set_cons_succ])
            )
          exact Y.SeqT.nil _
        · (rintro ch a V hd ⟨rfl, hV⟩; exact ⟨hd, ((Chg.of_later (hWl.trans hLr)).trans hV).mono (fun _ _ h => .inl h), .inr ⟨6, rfl, rfl, HF.out⟩⟩)
        intro t W hW hV
        refine wpList_is (l' := [_, _]) rfl ?_
        exact absurd rfl (hV 2 (by decide) rfl)
      | some i =>
        obtain ⟨gn, hgn⟩ : ∃ gn, (xs[i]?.getD (0, 0)).2 = gn := ⟨_, rfl⟩
        have HF := Lib.hid hF
        have HG := Lib.hid hgn
        clear hF hgn
        obtain ⟨i0, hi, hz0, hz1, hz2⟩ := info_parts infoE
        have Hi : Hid (Try.prog.info? 43 = some i0 ∧ i0.zero = some (.agg #[.int .i64 0, .int .u64 0]) ∧ i0.size = 2 ∧ i0.bytes = 16) := ⟨hi, hz0, hz1, hz2⟩
        clear hi hz0 hz1 hz2
        go_wp2
        refine Y.region_full (S := (Chg (fun i => i = D) wr)) (R := (tkR D)) (N := (tkN hb D n xs)) (Pn := (fun _ _ => False)) (af := ?_) 4 (tkF ((i : Int), gn)) (tkV wr hb D n (xs.set i (1, gn)) ((i : Int), gn)) tkE gU0 (by kernel_rfl) (by kernel_rfl) (by kernel_rfl) (by decide) (by kernel_rfl) (fun _ h => h.drew) (Chg.refl _ _) (tkSL D wr) (tkVL hDr) tkNL tkLoc (fun _ _ _ => HHr.out) ?_ (fun _ _ _ _ h => h.elim) ?_
        rotate_left
        · intro t
          repeat (first
            | (refine Y.SeqT.val (v := ?_) (by rfl) (by rfl) (fun W hW => ?_) ?_; rotate_left; (· (go_simp; try with_reducible rfl)); try simp only [Act.put, List.setIfInBounds_toArray, List.set_cons_zero, List.set_cons_succ])
            | (refine Y.SeqT.skip (by rfl) (by rfl) ?_; try simp only [Act.put, List.setIfInBounds_toArray, List.set_cons_zero, List.set_cons_succ])
            | (refine Y.SeqT.call (g := ?_) (args := ?_) (.agg #[.int .i64 (i : Int), .int .u64 gn]) (by rfl) (by rfl) (by rfl) (fun W hW => ?_) (fun W hW hN hd => ?_) ?_; rotate_left 2; (· (go_simp; first | with_reducible rfl | (refine ⟨?_, ?_⟩ <;> with_reducible rfl))); (· (exact (htake_c hb D n xs W (hN rfl)).mono fun e W2 h => .inl (by unfold TakeP at h; rw [HF.out] at h; simp only [HG.out] at h; exact ⟨default, h.1, h.2.2.1, h.2.2.2⟩))); try simp only [Act.put, List.setIfInBounds_toArray, List.set_cons_zero, List.set_cons_succ])
            | (refine Y.SeqT.make (.slice (some ⟨(t 3).n, 0, none⟩) 1 1) (by rfl) (by rfl) (by rfl) (fun W hW hN hd => ?_) ?_; (· (exact ⟨⟨none, W.heap.size, 0, undef⟩, W.alloc (.cells #[.int .i64 (i : Int), .int .u64 gn] 43), by go_simp; first | rfl | exact ⟨rfl, rfl⟩, ⟨hW.size, Box.new _ _ _⟩, (Later.refl W).alloc _⟩)); try simp only [Act.put, List.setIfInBounds_toArray, List.set_cons_zero, List.set_cons_succ])
            )
          exact Y.SeqT.nil _
        intro t W hW hV
        refine wpList_is (l' := [_, _]) rfl ?_
        have h2 := hV 2 (by decide) rfl
        have h3 := hV 3 (by decide) rfl
        simp only [tkV] at h2 h3
        generalize (t 3).n = b3 at *
        obtain ⟨hb3, h3⟩ := h3
        have hLW : Box W bl #[.slice none 0 0] 54 := HLr.out.chg hW hne
        have hcell : ∀ j u, [Value.int .i64 (i : Int), .int .u64 gn][j]? = some u → W.cell? ((⟨b3, 0, none⟩ : Addr).add j) = some u := fun j u hu => by
          rw [add_at, Nat.zero_add]
          exact h3.cell (by simpa using hu)
        have H2 := Lib.hid h2
        clear hV h2
        refine wpList_append_own_at _ rfl _ _ 54 rfl wr.heap.size 43 i0 (.agg #[.int .i64 0, .int .u64 0]) 2 16 Try.underlying54 Hi.out.1 Hi.out.2.1 Hi.out.2.2.1 Hi.out.2.2.2 rfl (by decide) (.slice none 0 0) 0 [] rfl (World.ownsRow_nil _ _ _ _) ⟨b3, 0, none⟩ 1 1 [.int .i64 (i : Int), .int .u64 gn] rfl rfl hcell
          (by intro u hu; simp only [List.mem_cons, List.not_mem_nil, or_false] at hu; rcases hu with rfl | rfl <;> rfl) (by decide) (by decide) hW.size ?_
        intro v1 w1 ho1 hg1 _ _
        obtain ⟨E1, e1, rfl, -, -⟩ := own_slice ho1
        have hC1 : Chg (fun i => i = D) W w1 := Chg.of_grown hg1 fun k e => by simp [Value.ownBlock] at e
        have hB1 : Box w1 bl #[.slice none 0 0] 54 := hLW.chg hC1 hne
        have hH1 : HandAt w1 hb D n (xs.set i (1, gn)) := H2.out.later ⟨hg1.os, hg1.tape, hg1.output, hg1.size, fun k hk => hg1.block k hk (by simp [Value.ownBlock])⟩
        have s0 := hB1.cell (i := 0) rfl
        have s1 := hB1.frozen
        have hbl2 : Box (w1.setCell ⟨bl, 0, none⟩ (.slice E1 1 e1)) bl #[.slice E1 1 e1] 54 := by simpa using hB1.set 0 (.slice E1 1 e1)
        have hR2 : (w1.setCell ⟨bl, 0, none⟩ (.slice E1 1 e1)).ownsRow B0 43 2 (.slice E1 1 e1) 1 (flat encE [((i : Int), gn)]) := ownsRow_setCell_other (own_base (by simpa [flat, encE] using ho1) (Nat.le_trans hB0 (Nat.le_trans hWl.sz hLr.sz))) (own_ne ho1 (show w1.heap[bl]? = _ from hB1) (by decide)) _
        have hH2 : HandAt (w1.setCell ⟨bl, 0, none⟩ (.slice E1 1 e1)) hb D n (xs.set i (1, gn)) := hH1.chg (Chg.set (S := fun k => k = bl) (Chg.refl _ _) rfl _) (hB1.ne hH1.1 (by decide)).symm hne.symm
        have hC2 : Chg (fun i => i = D ∨ i = bl) Wl (w1.setCell ⟨bl, 0, none⟩ (.slice E1 1 e1)) := Chg.set (S := fun i => i = D ∨ i = bl) ((((Chg.of_later hLr).trans hW).trans hC1).mono fun _ _ h => .inl h) (.inr rfl) _
        clear hB1 hH1 hC1 ho1 hg1 hLW h3 hcell
        go_wp2
        exact ⟨.inr ⟨rfl, hC2, _, hH2, i, E1, e1, HF.out, by rw [HG.out], hbl2, by rw [HG.out]; exact hR2⟩, by simp [intOf]⟩
    · go_wp2
      refine bodyPost_end (results_none rfl _ _ _) rfl ?_
      exact ⟨(Chg.of_later hWl).trans hC, .inl ⟨rfl, ys, hY, hT⟩⟩
end Go.Proofs.Ytdheckfndldbmaa

namespace Go.Proofs.Ytdheckfndldbmaa
open Go.RowKit
attribute [local go_sem] merge_t merge_f merge_a merge_o

theorem tookAt_stays (B0 bl : Nat) (xs : List E2) : ∀ ys W b cs t v, TookAt B0 bl xs ys W → Box W b cs t → (t = 27 ∨ t = 33) → TookAt B0 bl xs ys (W.setCell ⟨b, 0, none⟩ v) := by
  rintro ys W b cs t v ⟨i, L, lc, h1, h2, h3, h4⟩ hb ht
  have hne : t ≠ 54 ∧ t ≠ 43 := by rcases ht with rfl | rfl <;> decide
  exact ⟨i, L, lc, h1, h2, h3.set_other (h3.ne hb hne.1.symm) _ _, ownsRow_setCell_other h4 (own_ne h4 (show W.heap[b]? = _ from hb) hne.2.symm) _⟩

/-- what taking one of an arena comes to -/
def takeA (xs : List E2) : Except Int (List E2 × E2) :=
  if arenaOk xs then match freeD xs with | some i => .ok (xs.set i (1, (xs[i]?.getD (0, 0)).2), ((i : Int), (xs[i]?.getD (0, 0)).2)) | none => .error 6 else .error 210
def TakeAP (xs : List E2) (n : Nat) (w : World) (r : Ending) (w' : World) : Prop :=
  match takeA xs with
  | .error k => r = .returned (.tuple #[.agg #[.slice none 0 0], .slice none 0 0, .int .i64 k])
  | .ok (ys, e) => ∃ D L lc, r = .returned (.tuple #[.agg #[.slice (some ⟨D, 0, none⟩) n n], .slice L 1 lc, .int .i64 0]) ∧ w.heap.size ≤ D ∧ Box w' D (flat encE ys).toArray 47 ∧ ys.length = n ∧ w'.ownsRow w.heap.size 43 2 (.slice L 1 lc) 1 (flat encE [e])
theorem cf_take1 (args : Array Value) (W : World) : (callFunc 88 args).run Try.prog W = .ok (.enter 88 args) W := by go_simp

set_option maxRecDepth 100000 in
set_option maxHeartbeats 4000000 in
theorem atake_c (A : Option Addr) (n c : Nat) (xs : List E2) (w : World) (hm : n ≤ 1000000) (hR : Rd 2 encE w A n xs) :
    Calls Try.prog 82 #[.agg #[.slice A n c], .int .i64 1] w fun r w' => Later w w' ∧ TakeAP xs n w r w' := by
  have hmf : ∀ (fn : Fn) (first cap : Array Value) (w : World), (Instr.makeFunc fn first cap).run Try.prog w = .ok (.func fn first cap) w := fun _ _ _ _ => rfl
  obtain ⟨wb, hwb⟩ : ∃ wb, Hid ((((w.alloc (.cells #[.slice A n c] 27)).alloc (.cells #[.int .i64 1] 3)).alloc (.cells #[.slice none 0 0] 27)).alloc (.cells #[.slice none 0 0] 54) = wb) := ⟨_, rfl⟩
  have hL : Later w wb := by rw [← hwb.out]; exact ((((Later.refl _).alloc _).alloc _).alloc _).alloc _
  have b2 : Box wb w.heap.size #[.slice A n c] 27 := by rw [← hwb.out]; exact (((Box.new _ _ _).alloc _).alloc _).alloc _
  have b3 : Box wb (w.heap.size + 1) #[.int .i64 1] 3 := by
    rw [← hwb.out]; have := Box.new (w.alloc (.cells #[.slice A n c] 27)) #[.int .i64 1] 3
    rw [World.size_alloc] at this; exact (this.alloc _).alloc _
  have b4 : Box wb (w.heap.size + 1 + 1) #[.slice none 0 0] 27 := by
    rw [← hwb.out]; have := Box.new ((w.alloc (.cells #[.slice A n c] 27)).alloc (.cells #[.int .i64 1] 3)) #[.slice none 0 0] 27
    simp only [World.size_alloc] at this; exact this.alloc _
  have b7 : Box wb (w.heap.size + 1 + 1 + 1) #[.slice none 0 0] 54 := by
    rw [← hwb.out]; have := Box.new (((w.alloc (.cells #[.slice A n c] 27)).alloc (.cells #[.int .i64 1] 3)).alloc (.cells #[.slice none 0 0] 27)) #[.slice none 0 0] 54
    simpa only [World.size_alloc] using this
  have hwz : wb.heap.size = w.heap.size + 4 := by rw [← hwb.out]; simp
  have Hwz := Lib.hid hwz
  have B3 := Lib.hid b3
  have B4 := Lib.hid b4
  have B7 := Lib.hid b7
  have c2 := cel (b2.cell (i := 0) rfl)
  have HR : Hid (Rd 2 encE wb A n xs) := hR.later hL
  clear hwz b2 b3 b4 b7 hR
  cases hA : arenaOk xs with
  | false =>
    have HT : Hid (takeA xs = .error 210) := by show _ = _; simp [takeA, hA]
    have cT : Hid (∀ fv, Calls Try.prog 87 #[.agg #[.slice A n c], fv] wb fun r w' => ErrA 210 r ∧ Later wb w') := fun fv => atries_bad A n c xs fv wb hm HR.out hA
    clear hA
    go_enter Try.func82, Try.ntmps82
    go_wp2_with fail
    rw [hwb.out]
    refine (cT.out _).mono ?_
    rintro e w1 ⟨rfl, hL1⟩
    have g4 := B4.out.later hL1
    have hz1 := hL1.sz
    have hz : w.heap.size + 4 ≤ w1.heap.size := by have := Hwz.out; omega
    have g5 := (g4.alloc (.cells #[.slice none 0 0] 27)).set 0 (.slice none 0 0)
    have c4 := (g4.alloc (.cells #[.slice none 0 0] 27)).cell (i := 0) rfl
    have f4 := (g4.alloc (.cells #[.slice none 0 0] 27)).frozen
    have c5 := g5.cell (i := 0) rfl
    have G4 := Lib.hid g4
    clear g4 g5
    go_wp2
    refine bodyPost_ret (v := .tuple #[.agg #[.slice none 0 0], .slice none 0 0, .int .i64 210]) (by rw [results_ctt rfl]; go_simp) rfl ?_
    exact ⟨((hL.trans hL1).alloc _).set (by omega) _, by unfold TakeAP; rw [HT.out]⟩
  | true =>
    have hn2 : 2 ≤ n := by have h := hA; simp only [arenaOk, Bool.and_eq_true, decide_eq_true_eq] at h; rw [← HR.out.1]; exact h.1
    have cT := atries_c A n c xs 88 #[.pointer (some ⟨w.heap.size + 1, 0, none⟩), .pointer (some ⟨w.heap.size + 1 + 1 + 1, 0, none⟩)] wb hm HR.out hA cf_take1 (fun i => i = w.heap.size + 1 + 1 + 1) (TookAt w.heap.size (w.heap.size + 1 + 1 + 1) xs) (fun k => k = 6 ∧ freeD xs = none)
      (fun i hi => by have := Hwz.out; omega) (tookAt_stays _ _ _) (fun W hb D hL hhb hD hH => takeClo_c w.heap.size hb D n _ _ xs W (by have := hL.sz; have := Hwz.out; omega) hn2 hH (B3.out.later hL) (B7.out.later hL))
    have CT := Lib.hid cT
    have HA := Lib.hid hA
    clear cT hA
    go_enter Try.func82, Try.ntmps82
    go_wp2_with fail
    rw [hwb.out]
    refine CT.out.mono ?_
    rintro e w1 ⟨hC, ⟨ys, D, rfl, hD, hB, hyl, i, L, lc, hF, rfl, hbl, hown⟩ | ⟨k, rfl, rfl, hF⟩⟩
    · have hz1 := hC.size
      have hz : w.heap.size + 4 ≤ w1.heap.size := by have := Hwz.out; omega
      have hw : Later w w1 := ((Chg.of_later hL).trans hC).to_later fun i hi e => by omega
      have g4 := B4.out.chg hC (by omega)
      have HT : Hid (takeA xs = .ok (xs.set i (1, (xs[i]?.getD (0, 0)).2), ((i : Int), (xs[i]?.getD (0, 0)).2))) := by show _ = _; simp [takeA, HA.out, hF]
      obtain ⟨w2, hw2⟩ : ∃ w2, w1.alloc (.cells #[.slice (some ⟨D, 0, none⟩) n n] 27) = w2 := ⟨_, rfl⟩
      have q8 : Box w2 w1.heap.size #[.slice (some ⟨D, 0, none⟩) n n] 27 := by rw [← hw2]; exact Box.new _ _ _
      have q4 : Box w2 (w.heap.size + 1 + 1) #[.slice none 0 0] 27 := by rw [← hw2]; exact g4.alloc _
      have q7 : Box w2 (w.heap.size + 1 + 1 + 1) #[.slice L 1 lc] 54 := by rw [← hw2]; exact hbl.alloc _
      have qD : Box w2 D (flat encE (xs.set i (1, (xs[i]?.getD (0, 0)).2))).toArray 47 := by rw [← hw2]; exact hB.alloc _
      have qO : w2.ownsRow w.heap.size 43 2 (.slice L 1 lc) 1 (flat encE [((i : Int), (xs[i]?.getD (0, 0)).2)]) := by rw [← hw2]; exact hown.alloc _
      have hw2L : Later w w2 := by rw [← hw2]; exact hw.alloc _
      have hF2 : Hid (Box w2 D (flat encE (xs.set i (1, (xs[i]?.getD (0, 0)).2))).toArray 47 ∧ w2.ownsRow w.heap.size 43 2 (.slice L 1 lc) 1 (flat encE [((i : Int), (xs[i]?.getD (0, 0)).2)])) := ⟨qD, qO⟩
      have Q4 := Lib.hid q4
      have d8 : ∀ V, Chg (fun i => i = w.heap.size + 1 + 1) w2 V → V.cell? ⟨w1.heap.size, 0, none⟩ = some (.slice (some ⟨D, 0, none⟩) n n) := celS (by omega) (q8.cell (i := 0) rfl)
      have d7 : ∀ V, Chg (fun i => i = w.heap.size + 1 + 1) w2 V → V.cell? ⟨w.heap.size + 1 + 1 + 1, 0, none⟩ = some (.slice L 1 lc) := celS (by omega) (q7.cell (i := 0) rfl)
      clear g4 hB hown hbl hF qD qO q8 q7 q4
      go_wp2
      refine Y.region_full (S := (Chg (fun i => i = w.heap.size + 1 + 1) w2)) (R := (oneR 2 (Chg (fun i => i = w.heap.size + 1 + 1)))) (N := (oneP 2 fun W => Box W (w.heap.size + 1 + 1) #[.slice none 0 0] 27)) (Pn := (fun _ _ => False)) (af := ?_) 3 (fun _ _ => undef) (fun j _ => oneP 2 (fun W => Box W (w.heap.size + 1 + 1) #[.slice (some ⟨D, 0, none⟩) n n] 27) j) (oneE 2) gU0 (by kernel_rfl) (by kernel_rfl) (by kernel_rfl) (by decide) (by kernel_rfl) (fun _ h => h.drew) (Chg.refl _ _) (fun _ _ _ h h2 => h.trans h2.2) oneVL oneNL (fun _ _ _ _ _ _ h => h) (fun _ _ _ => Q4.out) ?_ (fun _ _ _ _ h => h.elim) ?_
      rotate_left
      · intro t
        repeat (first
          | (refine Y.SeqT.val (v := ?_) (by rfl) (by rfl) (fun W hW => ?_) ?_; rotate_left; (· (go_simp; try with_reducible rfl)); try simp only [Act.put, List.setIfInBounds_toArray, List.set_cons_zero, List.set_cons_succ])
          | (refine Y.SeqT.skip (by rfl) (by rfl) ?_; try simp only [Act.put, List.setIfInBounds_toArray, List.set_cons_zero, List.set_cons_succ])
          | (refine Y.SeqT.store (by rfl) (by rfl) (fun _ => by rfl) (fun W hW hN hd => ?_) ?_; (· (have q := hN rfl; have q0 := q.cell (i := 0) rfl; have qf := q.frozen; exact ⟨W.setCell ⟨w.heap.size + 1 + 1, 0, none⟩ (.slice (some ⟨D, 0, none⟩) n n), by go_simp, fun _ => by simpa using q.set 0 (.slice (some ⟨D, 0, none⟩) n n), rfl, Chg.set (S := fun i => i = w.heap.size + 1 + 1) (Chg.refl _ _) rfl _⟩)); try simp only [Act.put, List.setIfInBounds_toArray, List.set_cons_zero, List.set_cons_succ])
          )
        exact Y.SeqT.nil _
      intro t W hW hV
      refine wpList_is (l' := [_, _]) rfl ?_
      have q4 := hV 2 (by decide) rfl rfl
      have q0 := q4.cell (i := 0) rfl
      clear hV
      go_wp2
      refine bodyPost_ret (v := .tuple #[.agg #[.slice (some ⟨D, 0, none⟩) n n], .slice L 1 lc, .int .i64 0]) (by rw [results_ctt rfl]; go_simp) rfl ?_
      refine ⟨(Chg.trans (S := fun i => i = w.heap.size + 1 + 1) (.of_later hw2L) hW).to_later fun i hi e => by omega, ?_⟩
      unfold TakeAP
      rw [HT.out]
      exact ⟨D, L, lc, rfl, by have := Hwz.out; omega, hF2.out.1.chg hW (by have := Hwz.out; omega), by rw [List.length_set]; exact HR.out.1, hW.own hF2.out.2 (fun k hk e => own_ne hF2.out.2 (show w2.heap[w.heap.size + 1 + 1]? = _ from Q4.out) (by decide) (by rw [hk, e]))⟩
    · have hz1 := hC.size
      have hz : w.heap.size + 4 ≤ w1.heap.size := by have := Hwz.out; omega
      have hw : Later w w1 := ((Chg.of_later hL).trans hC).to_later fun i hi e => by omega
      have g4 := B4.out.chg hC (by omega)
      have HT : Hid (takeA xs = .error 6) := by show _ = _; simp [takeA, HA.out, hF]
      have g5 := (g4.alloc (.cells #[.slice none 0 0] 27)).set 0 (.slice none 0 0)
      have c4 := (g4.alloc (.cells #[.slice none 0 0] 27)).cell (i := 0) rfl
      have f4 := (g4.alloc (.cells #[.slice none 0 0] 27)).frozen
      have c5 := g5.cell (i := 0) rfl
      have G4 := Lib.hid g4
      clear g4 g5 hC hF
      go_wp2
      refine bodyPost_ret (v := .tuple #[.agg #[.slice none 0 0], .slice none 0 0, .int .i64 6]) (by rw [results_ctt rfl]; go_simp) rfl ?_
      exact ⟨(hw.alloc _).set (by omega) _, by unfold TakeAP; rw [HT.out]⟩
end Go.Proofs.Ytdheckfndldbmaa

namespace Go.Proofs.Ytdheckfndldbmaa
open Go.RowKit
attribute [local go_sem] merge_t merge_f merge_a merge_o

theorem rdI_lit (W : World) (g : Nat) (xs : List Int) (h : Box W g (xs.map (Value.int .i64)).toArray 3) : Rd 1 encI W (some ⟨g, 0, none⟩) xs.length xs := by
  refine ⟨rfl, fun _ => ⟨g, 0, rfl, fun k x hx j v hv => ?_⟩⟩
  have hj : j = 0 := by
    have := (List.getElem?_eq_some_iff.1 hv).1
    simp [encI] at this; exact this
  subst hj
  simp [encI] at hv
  refine h.cell ?_
  simp [hx, hv]

/-- retiring, giving back: the slabs behind it, or the error -/
def retD (xs : List E2) (e : E2) : Except Int (List E2) := if slabIs xs e [1] then .ok (xs.set e.1.toNat (2, (xs[e.1.toNat]?.getD (0, 0)).2)) else .error 4
def givD (xs : List E2) (e : E2) : Except Int (List E2) :=
  if slabIs xs e [1, 2] then if (xs[e.1.toNat]?.getD (0, 0)).2 < 1099511627775 then .ok (xs.set e.1.toNat (0, (xs[e.1.toNat]?.getD (0, 0)).2 + 1)) else .error 6 else .error 4

set_option maxRecDepth 100000 in
set_option maxHeartbeats 4000000 in
theorem retClo_c (hb D n bl : Nat) (xs : List E2) (L : Option Addr) (lc : Nat) (s g : Int) (w : World) (hlc : 1 ≤ lc ∧ lc ≤ maxLen) (hH : HandAt w hb D n xs) (hl : Box w bl #[.slice L 1 lc] 54) (hR : Rd 2 encE w L 1 [(s, g)]) :
    Calls Try.prog 91 (#[.pointer (some ⟨hb, 0, none⟩)] ++ #[.pointer (some ⟨bl, 0, none⟩)]) w fun r W' => Chg (fun i => i = D ∨ False) w W' ∧
      ((r = .returned (.tuple #[]) ∧ ∃ ys, HandAt W' hb D n ys ∧ retD xs (s, g) = .ok ys) ∨ (∃ k, r = .panicked (errChain k) ∧ retD xs (s, g) = .error k)) := by
  have l0 := cel (hl.cell (i := 0) rfl)
  obtain ⟨bb, off, rfl, e0, e1⟩ := hR.atE 0 (by omega)
  simp only [Nat.zero_mul, Nat.add_zero] at e0 e1
  have hn := hH.2.2.2
  have hlen := hH.2.2.1
  have HH := Lib.hid hH
  have HLEN := Lib.hid hlen
  unfold maxLen at hlc
  clear hH hl hR hlen
  go_enter Try.func91, Try.ntmps91
  go_wp2
  go_loopw [7] (fun i wr => (i = .int .i64 0 ∧ Later w wr) ∨ (i = .int .i64 1 ∧ Chg (fun i => i = D ∨ False) w wr ∧ ∃ ys, HandAt wr hb D n ys ∧ retD xs (s, g) = .ok ys)) (fun i _ => 1 - (intOf i).toNat)
  case atStart => exact .inl ⟨rfl, Later.refl _⟩
  case round =>
    rcases hrel with ⟨rfl, hLr⟩ | ⟨rfl, hC, ys, hY, hT⟩
    · go_wp2_with fail
      have hLt : Later wr ((wr.alloc (.cells #[.int .i64 s, .int .u64 g] 43)).alloc (.cells #[.int .i64 1] 3)) := ((Later.refl _).alloc _).alloc _
      have hT : Rd 1 encI ((wr.alloc (.cells #[.int .i64 s, .int .u64 g] 43)).alloc (.cells #[.int .i64 1] 3)) (some ⟨wr.heap.size + 1, 0, none⟩) 1 [1] := by
        have := rdI_lit ((wr.alloc (.cells #[.int .i64 s, .int .u64 g] 43)).alloc (.cells #[.int .i64 1] 3)) (wr.heap.size + 1) [1] (by have := Box.new (wr.alloc (.cells #[.int .i64 s, .int .u64 g] 43)) #[.int .i64 1] 3; rw [World.size_alloc] at this; exact this)
        exact this
      refine (hslab_c hb D n xs s g _ _ _ [1] _ (by omega) hT (HH.out.later (hLr.trans hLt))).mono ?_
      rintro e w2 ⟨hif, hL2⟩
      have hL02 : Later w w2 := (hLr.trans hLt).trans hL2
      cases hS : slabIs xs (s, g) [1] with
      | false =>
        rw [hS, if_neg (by simp)] at hif
        subst hif
        have HE : Hid (retD xs (s, g) = .error 4) := by show _ = _; simp [retD, hS]
        clear hT
        go_wp2
        exact ⟨rfl, Chg.of_later hL02, .inr ⟨4, rfl, HE.out⟩⟩
      | true =>
        rw [hS, if_pos rfl] at hif
        subst hif
        have hm : meantD xs (s, g) = true := by simp only [slabIs, Bool.and_eq_true] at hS; exact hS.1
        obtain ⟨m1, m2, m3⟩ := meant_lt hm
        have hi : s.toNat < n := by have := HLEN.out; omega
        have HE : Hid (retD xs (s, g) = .ok (xs.set s.toNat (2, (xs[s.toNat]?.getD (0, 0)).2))) := by show _ = _; simp [retD, hS]
        have hH2 := HH.out.later hL02
        obtain ⟨_, _, e', s0, -⟩ := hH2.rd.atE s.toNat hi
        cases e'
        rw [Nat.zero_add] at s0
        have s0 := s0 _ (Later.refl _)
        have f0 := hH2.2.1.frozen (s.toNat * 2)
        have hH3 := hH2.set1 hi 2
        have hC3 : Chg (fun i => i = D ∨ False) w (w2.setCell ⟨D, s.toNat * 2, none⟩ (.int .i64 2)) := Chg.set (S := fun i => i = D ∨ False) (Chg.of_later hL02) (.inl rfl) _
        have HF := Lib.hid (show _ ∧ _ from ⟨hH3, hC3⟩)
        clear hH2 hH3 hC3 hT hm hS m1 m2 m3
        dsimp only
        go_wp2
        exact ⟨.inr ⟨rfl, HF.out.2, _, HF.out.1, HE.out⟩, by simp [intOf]⟩
    · go_wp2
      refine bodyPost_end (results_none rfl _ _ _) rfl ?_
      exact ⟨hC, .inl ⟨rfl, ys, hY, hT⟩⟩
set_option maxRecDepth 100000 in
set_option maxHeartbeats 4000000 in
theorem givClo_c (hb D n bl : Nat) (xs : List E2) (L : Option Addr) (lc : Nat) (s g : Int) (w : World) (hwf : ∀ x ∈ xs, 0 ≤ x.2) (hlc : 1 ≤ lc ∧ lc ≤ maxLen) (hH : HandAt w hb D n xs) (hl : Box w bl #[.slice L 1 lc] 54) (hR : Rd 2 encE w L 1 [(s, g)]) :
    Calls Try.prog 93 (#[.pointer (some ⟨hb, 0, none⟩)] ++ #[.pointer (some ⟨bl, 0, none⟩)]) w fun r W' => Chg (fun i => i = D ∨ False) w W' ∧
      ((r = .returned (.tuple #[]) ∧ ∃ ys, HandAt W' hb D n ys ∧ givD xs (s, g) = .ok ys) ∨ (∃ k, r = .panicked (errChain k) ∧ givD xs (s, g) = .error k)) := by
  have l0 := cel (hl.cell (i := 0) rfl)
  obtain ⟨bb, off, rfl, e0, e1⟩ := hR.atE 0 (by omega)
  simp only [Nat.zero_mul, Nat.add_zero] at e0 e1
  have hn := hH.2.2.2
  have hlen := hH.2.2.1
  have HH := Lib.hid hH
  have HLEN := Lib.hid hlen
  have HWF := Lib.hid hwf
  unfold maxLen at hlc
  clear hH hl hR hlen hwf
  go_enter Try.func93, Try.ntmps93
  go_wp2
  go_loopw [8] (fun i wr => (i = .int .i64 0 ∧ Later w wr) ∨ (i = .int .i64 1 ∧ Chg (fun i => i = D ∨ False) w wr ∧ ∃ ys, HandAt wr hb D n ys ∧ givD xs (s, g) = .ok ys)) (fun i _ => 1 - (intOf i).toNat)
  case atStart => exact .inl ⟨rfl, Later.refl _⟩
  case round =>
    rcases hrel with ⟨rfl, hLr⟩ | ⟨rfl, hC, ys, hY, hT⟩
    · go_wp2_with fail
      have hLt : Later wr ((wr.alloc (.cells #[.int .i64 s, .int .u64 g] 43)).alloc (.cells #[.int .i64 1, .int .i64 2] 3)) := ((Later.refl _).alloc _).alloc _
      have hT : Rd 1 encI ((wr.alloc (.cells #[.int .i64 s, .int .u64 g] 43)).alloc (.cells #[.int .i64 1, .int .i64 2] 3)) (some ⟨wr.heap.size + 1, 0, none⟩) 2 [1, 2] := by
        have := rdI_lit ((wr.alloc (.cells #[.int .i64 s, .int .u64 g] 43)).alloc (.cells #[.int .i64 1, .int .i64 2] 3)) (wr.heap.size + 1) [1, 2] (by have := Box.new (wr.alloc (.cells #[.int .i64 s, .int .u64 g] 43)) #[.int .i64 1, .int .i64 2] 3; rw [World.size_alloc] at this; exact this)
        exact this
      refine (hslab_c hb D n xs s g _ _ _ [1, 2] _ (by omega) hT (HH.out.later (hLr.trans hLt))).mono ?_
      rintro e w2 ⟨hif, hL2⟩
      have hL02 : Later w w2 := (hLr.trans hLt).trans hL2
      cases hS : slabIs xs (s, g) [1, 2] with
      | false =>
        rw [hS, if_neg (by simp)] at hif
        subst hif
        have HE : Hid (givD xs (s, g) = .error 4) := by show _ = _; simp [givD, hS]
        clear hT
        go_wp2
        exact ⟨rfl, Chg.of_later hL02, .inr ⟨4, rfl, HE.out⟩⟩
      | true =>
        rw [hS, if_pos rfl] at hif
        subst hif
        have hm : meantD xs (s, g) = true := by simp only [slabIs, Bool.and_eq_true] at hS; exact hS.1
        obtain ⟨m1, m2, m3⟩ := meant_lt hm
        have hi : s.toNat < n := by have := HLEN.out; omega
        have hH2 := HH.out.later hL02
        obtain ⟨_, _, e', s0, s1⟩ := hH2.rd.atE s.toNat hi
        cases e'
        rw [Nat.zero_add] at s0 s1
        have hge : 0 ≤ (xs[s.toNat]?.getD (0, 0)).2 := HWF.out _ (getD_mem (by rw [HLEN.out]; exact hi))
        generalize hgn : (xs[s.toNat]?.getD (0, 0)).2 = gn at s1 hge
        by_cases hlt : gn < 1099511627775
        · have HE : Hid (givD xs (s, g) = .ok (xs.set s.toNat (0, gn + 1))) := by show _ = _; simp [givD, hS, hgn, hlt]
          have hdl : decide (gn < 1099511627775) = true := decide_eq_true hlt
          have s0 := s0 _ (Later.refl _)
          have f0 := hH2.2.1.frozen (s.toNat * 2)
          have hH3 := hH2.set1 hi 0
          rw [hgn] at hH3
          have hi3 : s.toNat < xs.length := by rw [HLEN.out]; exact hi
          have hH4 := hH3.set2 hi (gn + 1)
          rw [show ((xs.set s.toNat (0, gn))[s.toNat]?.getD (0, 0)).1 = 0 by rw [List.getElem?_set_self hi3]; rfl, List.set_set] at hH4
          have s2 := hH3.2.1.cell (i := s.toNat * 2 + 1) (v := .int .u64 gn) (by
            have := flat_at enc_E (xs.set s.toNat (0, gn)) s.toNat 1 (by omega)
            rw [List.getElem?_set_self hi3] at this
            simpa [encE] using this)
          have f2 := hH3.2.1.frozen (s.toNat * 2 + 1)
          have hC3 : Chg (fun i => i = D ∨ False) w ((w2.setCell ⟨D, s.toNat * 2, none⟩ (.int .i64 0)).setCell ⟨D, s.toNat * 2 + 1, none⟩ (.int .u64 (gn + 1))) := Chg.set (S := fun i => i = D ∨ False) (Chg.set (S := fun i => i = D ∨ False) (Chg.of_later hL02) (.inl rfl) _) (.inl rfl) _
          have HF := Lib.hid (show _ ∧ _ from ⟨hH4, hC3⟩)
          clear hH2 hH3 hC3 hH4 hT hm hS m1 m2 m3
          dsimp only
          go_wp2_with (go_at_call 89; (with_reducible refine (aneed_yes _ _).mono ?_); rintro e w9 ⟨rfl, rfl⟩)
          exact ⟨.inr ⟨rfl, HF.out.2, _, HF.out.1, HE.out⟩, by simp [intOf]⟩
        · have HE : Hid (givD xs (s, g) = .error 6) := by show _ = _; simp [givD, hS, hgn, hlt]
          have hdl : decide (gn < 1099511627775) = false := decide_eq_false hlt
          clear hH2 hT hm hS m1 m2 m3 s0
          dsimp only
          go_wp2_with (go_at_call 89; (with_reducible refine (aneed_no _ _).mono ?_); rintro e w9 ⟨rfl, rfl⟩)
          exact ⟨rfl, Chg.of_later hL02, .inr ⟨6, rfl, HE.out⟩⟩
    · go_wp2
      refine bodyPost_end (results_none rfl _ _ _) rfl ?_
      exact ⟨hC, .inl ⟨rfl, ys, hY, hT⟩⟩
end Go.Proofs.Ytdheckfndldbmaa

namespace Go.Proofs.Ytdheckfndldbmaa
open Go.RowKit
attribute [local go_sem] merge_t merge_f merge_a merge_o

def ArenaP (res : Except Int (List E2)) (n : Nat) (w : World) (r : Ending) (w' : World) : Prop :=
  match res with
  | .error k => ErrA k r
  | .ok ys => ∃ D, r = .returned (.tuple #[.agg #[.slice (some ⟨D, 0, none⟩) n n], .int .i64 0]) ∧ w.heap.size ≤ D ∧ Box w' D (flat encE ys).toArray 47 ∧ ys.length = n
def retA (xs : List E2) (e : E2) : Except Int (List E2) := if arenaOk xs then retD xs e else .error 210
def givA (xs : List E2) (e : E2) : Except Int (List E2) := if arenaOk xs then givD xs e else .error 210

theorem cf_ret1 (args : Array Value) (W : World) : (callFunc 91 args).run Try.prog W = .ok (.enter 91 args) W := by go_simp
set_option maxRecDepth 100000 in
set_option maxHeartbeats 4000000 in
theorem aret_c (A : Option Addr) (n c : Nat) (xs : List E2) (L : Option Addr) (lc : Nat) (s g : Int) (w : World) (hm : n ≤ 1000000) (hlc : 1 ≤ lc ∧ lc ≤ maxLen) (hR : Rd 2 encE w A n xs) (hE : Rd 2 encE w L 1 [(s, g)]) :
    Calls Try.prog 84 #[.agg #[.slice A n c], .slice L 1 lc] w fun r w' => Later w w' ∧ ArenaP (retA xs (s, g)) n w r w' := by
  have hmf : ∀ (fn : Fn) (first cap : Array Value) (w : World), (Instr.makeFunc fn first cap).run Try.prog w = .ok (.func fn first cap) w := fun _ _ _ _ => rfl
  obtain ⟨wb, hwb⟩ : ∃ wb, Hid (((w.alloc (.cells #[.slice A n c] 27)).alloc (.cells #[.slice L 1 lc] 54)).alloc (.cells #[.slice none 0 0] 27) = wb) := ⟨_, rfl⟩
  have hL : Later w wb := by rw [← hwb.out]; exact (((Later.refl _).alloc _).alloc _).alloc _
  have b2 : Box wb w.heap.size #[.slice A n c] 27 := by rw [← hwb.out]; exact ((Box.new _ _ _).alloc _).alloc _
  have b3 : Box wb (w.heap.size + 1) #[.slice L 1 lc] 54 := by
    rw [← hwb.out]; have := Box.new (w.alloc (.cells #[.slice A n c] 27)) #[.slice L 1 lc] 54
    rw [World.size_alloc] at this; exact this.alloc _
  have b4 : Box wb (w.heap.size + 1 + 1) #[.slice none 0 0] 27 := by
    rw [← hwb.out]; have := Box.new ((w.alloc (.cells #[.slice A n c] 27)).alloc (.cells #[.slice L 1 lc] 54)) #[.slice none 0 0] 27
    simpa only [World.size_alloc] using this
  have hwz : wb.heap.size = w.heap.size + 3 := by rw [← hwb.out]; simp
  have Hwz := Lib.hid hwz
  have B3 := Lib.hid b3
  have B4 := Lib.hid b4
  have c2 := cel (b2.cell (i := 0) rfl)
  have HR : Hid (Rd 2 encE wb A n xs) := hR.later hL
  have HE : Hid (Rd 2 encE wb L 1 [(s, g)]) := hE.later hL
  clear hwz b2 b3 b4 hR hE
  cases hA : arenaOk xs with
  | false =>
    have HT : Hid (retA xs (s, g) = .error 210) := by show _ = _; simp [retA, hA]
    have cT : Hid (∀ fv, Calls Try.prog 87 #[.agg #[.slice A n c], fv] wb fun r w' => ErrA 210 r ∧ Later wb w') := fun fv => atries_bad A n c xs fv wb hm HR.out hA
    clear hA
    go_enter Try.func84, Try.ntmps84
    go_wp2_with fail
    rw [hwb.out]
    refine (cT.out _).mono ?_
    rintro e w1 ⟨rfl, hL1⟩
    have g4 := B4.out.later hL1
    have g5 := g4.set 0 (.slice none 0 0)
    have c4 := g4.cell (i := 0) rfl
    have f4 := g4.frozen
    have c5 := g5.cell (i := 0) rfl
    clear g4 g5
    go_wp2
    refine bodyPost_ret (v := .tuple #[.agg #[.slice none 0 0], .int .i64 210]) (by rw [results_ct rfl]; go_simp) rfl ?_
    exact ⟨(hL.trans hL1).set (by omega) _, by unfold ArenaP; rw [HT.out]; rfl⟩
  | true =>
    have cT := atries_c A n c xs 91 #[.pointer (some ⟨w.heap.size + 1, 0, none⟩)] wb hm HR.out hA cf_ret1 (fun _ => False) (fun ys _ => retD xs (s, g) = .ok ys) (fun k => retD xs (s, g) = .error k)
      (fun i hi => hi.elim) (fun _ _ _ _ _ _ h _ _ => h) (fun W hb D hL hhb hD hH => retClo_c hb D n _ xs L lc s g W hlc hH (B3.out.later hL) (HE.out.later hL))
    have CT := Lib.hid cT
    have HA : Hid (retA xs (s, g) = retD xs (s, g)) := by show _ = _; simp [retA, hA]
    clear cT hA
    go_enter Try.func84, Try.ntmps84
    go_wp2_with fail
    rw [hwb.out]
    refine CT.out.mono ?_
    rintro e w1 ⟨hC, ⟨ys, D, rfl, hD, hB, hyl, hF⟩ | ⟨k, rfl, hF⟩⟩
    all_goals
      have hL1 : Later wb w1 := hC.to_later fun _ _ h => h
      have g4 := B4.out.later hL1
      have hz1 := B4.out.lt
    · have g5 := g4.set 0 (.slice (some ⟨D, 0, none⟩) n n)
      have c4 := g4.cell (i := 0) rfl
      have f4 := g4.frozen
      have c5 := g5.cell (i := 0) rfl
      have HF : Hid (Box (w1.setCell ⟨w.heap.size + 1 + 1, 0, none⟩ (.slice (some ⟨D, 0, none⟩) n n)) D (flat encE ys).toArray 47 ∧ retD xs (s, g) = .ok ys) := ⟨hB.set_other (by omega) _ _, hF⟩
      clear g4 g5 hB hF hC
      go_wp2
      refine bodyPost_ret (v := .tuple #[.agg #[.slice (some ⟨D, 0, none⟩) n n], .int .i64 0]) (by rw [results_ct rfl]; go_simp) rfl ?_
      exact ⟨(hL.trans hL1).set (by omega) _, by unfold ArenaP; rw [HA.out, HF.out.2]; exact ⟨D, rfl, by omega, HF.out.1, hyl⟩⟩
    · have g5 := g4.set 0 (.slice none 0 0)
      have c4 := g4.cell (i := 0) rfl
      have f4 := g4.frozen
      have c5 := g5.cell (i := 0) rfl
      have HF := Lib.hid hF
      clear g4 g5 hC hF
      go_wp2
      refine bodyPost_ret (v := .tuple #[.agg #[.slice none 0 0], .int .i64 k]) (by rw [results_ct rfl]; go_simp) rfl ?_
      exact ⟨(hL.trans hL1).set (by omega) _, by unfold ArenaP; rw [HA.out, HF.out]; rfl⟩

theorem cf_giv1 (args : Array Value) (W : World) : (callFunc 93 args).run Try.prog W = .ok (.enter 93 args) W := by go_simp
set_option maxRecDepth 100000 in
set_option maxHeartbeats 4000000 in
theorem agiv_c (A : Option Addr) (n c : Nat) (xs : List E2) (L : Option Addr) (lc : Nat) (s g : Int) (w : World) (hm : n ≤ 1000000) (hwf : ∀ x ∈ xs, 0 ≤ x.2) (hlc : 1 ≤ lc ∧ lc ≤ maxLen) (hR : Rd 2 encE w A n xs) (hE : Rd 2 encE w L 1 [(s, g)]) :
    Calls Try.prog 85 #[.agg #[.slice A n c], .slice L 1 lc] w fun r w' => Later w w' ∧ ArenaP (givA xs (s, g)) n w r w' := by
  have hmf : ∀ (fn : Fn) (first cap : Array Value) (w : World), (Instr.makeFunc fn first cap).run Try.prog w = .ok (.func fn first cap) w := fun _ _ _ _ => rfl
  obtain ⟨wb, hwb⟩ : ∃ wb, Hid (((w.alloc (.cells #[.slice A n c] 27)).alloc (.cells #[.slice L 1 lc] 54)).alloc (.cells #[.slice none 0 0] 27) = wb) := ⟨_, rfl⟩
  have hL : Later w wb := by rw [← hwb.out]; exact (((Later.refl _).alloc _).alloc _).alloc _
  have b2 : Box wb w.heap.size #[.slice A n c] 27 := by rw [← hwb.out]; exact ((Box.new _ _ _).alloc _).alloc _
  have b3 : Box wb (w.heap.size + 1) #[.slice L 1 lc] 54 := by
    rw [← hwb.out]; have := Box.new (w.alloc (.cells #[.slice A n c] 27)) #[.slice L 1 lc] 54
    rw [World.size_alloc] at this; exact this.alloc _
  have b4 : Box wb (w.heap.size + 1 + 1) #[.slice none 0 0] 27 := by
    rw [← hwb.out]; have := Box.new ((w.alloc (.cells #[.slice A n c] 27)).alloc (.cells #[.slice L 1 lc] 54)) #[.slice none 0 0] 27
    simpa only [World.size_alloc] using this
  have hwz : wb.heap.size = w.heap.size + 3 := by rw [← hwb.out]; simp
  have Hwz := Lib.hid hwz
  have B3 := Lib.hid b3
  have B4 := Lib.hid b4
  have c2 := cel (b2.cell (i := 0) rfl)
  have HR : Hid (Rd 2 encE wb A n xs) := hR.later hL
  have HE : Hid (Rd 2 encE wb L 1 [(s, g)]) := hE.later hL
  clear hwz b2 b3 b4 hR hE
  cases hA : arenaOk xs with
  | false =>
    have HT : Hid (givA xs (s, g) = .error 210) := by show _ = _; simp [givA, hA]
    have cT : Hid (∀ fv, Calls Try.prog 87 #[.agg #[.slice A n c], fv] wb fun r w' => ErrA 210 r ∧ Later wb w') := fun fv => atries_bad A n c xs fv wb hm HR.out hA
    clear hA
    go_enter Try.func85, Try.ntmps85
    go_wp2_with fail
    rw [hwb.out]
    refine (cT.out _).mono ?_
    rintro e w1 ⟨rfl, hL1⟩
    have g4 := B4.out.later hL1
    have g5 := g4.set 0 (.slice none 0 0)
    have c4 := g4.cell (i := 0) rfl
    have f4 := g4.frozen
    have c5 := g5.cell (i := 0) rfl
    clear g4 g5
    go_wp2
    refine bodyPost_ret (v := .tuple #[.agg #[.slice none 0 0], .int .i64 210]) (by rw [results_ct rfl]; go_simp) rfl ?_
    exact ⟨(hL.trans hL1).set (by omega) _, by unfold ArenaP; rw [HT.out]; rfl⟩
  | true =>
    have cT := atries_c A n c xs 93 #[.pointer (some ⟨w.heap.size + 1, 0, none⟩)] wb hm HR.out hA cf_giv1 (fun _ => False) (fun ys _ => givD xs (s, g) = .ok ys) (fun k => givD xs (s, g) = .error k)
      (fun i hi => hi.elim) (fun _ _ _ _ _ _ h _ _ => h) (fun W hb D hL hhb hD hH => givClo_c hb D n _ xs L lc s g W hwf hlc hH (B3.out.later hL) (HE.out.later hL))
    have CT := Lib.hid cT
    have HA : Hid (givA xs (s, g) = givD xs (s, g)) := by show _ = _; simp [givA, hA]
    clear cT hA
    go_enter Try.func85, Try.ntmps85
    go_wp2_with fail
    rw [hwb.out]
    refine CT.out.mono ?_
    rintro e w1 ⟨hC, ⟨ys, D, rfl, hD, hB, hyl, hF⟩ | ⟨k, rfl, hF⟩⟩
    all_goals
      have hL1 : Later wb w1 := hC.to_later fun _ _ h => h
      have g4 := B4.out.later hL1
      have hz1 := B4.out.lt
    · have g5 := g4.set 0 (.slice (some ⟨D, 0, none⟩) n n)
      have c4 := g4.cell (i := 0) rfl
      have f4 := g4.frozen
      have c5 := g5.cell (i := 0) rfl
      have HF : Hid (Box (w1.setCell ⟨w.heap.size + 1 + 1, 0, none⟩ (.slice (some ⟨D, 0, none⟩) n n)) D (flat encE ys).toArray 47 ∧ givD xs (s, g) = .ok ys) := ⟨hB.set_other (by omega) _ _, hF⟩
      clear g4 g5 hB hF hC
      go_wp2
      refine bodyPost_ret (v := .tuple #[.agg #[.slice (some ⟨D, 0, none⟩) n n], .int .i64 0]) (by rw [results_ct rfl]; go_simp) rfl ?_
      exact ⟨(hL.trans hL1).set (by omega) _, by unfold ArenaP; rw [HA.out, HF.out.2]; exact ⟨D, rfl, by omega, HF.out.1, hyl⟩⟩
    · have g5 := g4.set 0 (.slice none 0 0)
      have c4 := g4.cell (i := 0) rfl
      have f4 := g4.frozen
      have c5 := g5.cell (i := 0) rfl
      have HF := Lib.hid hF
      clear g4 g5 hC hF
      go_wp2
      refine bodyPost_ret (v := .tuple #[.agg #[.slice none 0 0], .int .i64 k]) (by rw [results_ct rfl]; go_simp) rfl ?_
      exact ⟨(hL.trans hL1).set (by omega) _, by unfold ArenaP; rw [HA.out, HF.out]; rfl⟩
end Go.Proofs.Ytdheckfndldbmaa

namespace Go.Proofs.Ytdheckfndldbmaa
open Go.RowKit
attribute [local go_sem] merge_t merge_f merge_a merge_o

/-- what make lays is a row of the type's zero -/
theorem made_flat {α : Type} {sz : Nat} {enc : α → List Value} (he : Enc sz enc) (x : α) (n : Nat) : madeCells (enc x).toArray (n * sz) = (flat enc (List.replicate n x)).toArray := by
  have hl := flat_len he (List.replicate n x)
  rw [List.length_replicate] at hl
  apply Array.ext_getElem?
  intro q
  have hx : (enc x).length = sz := he.1 x
  by_cases hq : q < n * sz
  · have hs : 0 < sz := he.3
    have h1 : q / sz < n := (Nat.div_lt_iff_lt_mul hs).2 hq
    have h2 : q % sz < sz := Nat.mod_lt _ hs
    have h3 : q / sz * sz + q % sz = q := by rw [Nat.mul_comm]; exact Nat.div_add_mod q sz
    have h4 := flat_at he (List.replicate n x) (q / sz) (q % sz) h2
    rw [h3, List.getElem?_replicate, if_pos h1, Option.bind_some] at h4
    rw [show (flat enc (List.replicate n x)).toArray[q]? = (flat enc (List.replicate n x))[q]? from by simp, h4]
    simp only [madeCells, List.size_toArray, hx]
    rw [List.getElem?_eq_getElem (by omega)]
    simp [hq]
    rw [List.getElem?_eq_getElem (by omega)]; rfl
  · rw [Array.getElem?_eq_none (by rw [size_madeCells]; omega), show (flat enc (List.replicate n x)).toArray[q]? = (flat enc (List.replicate n x))[q]? from by simp, List.getElem?_eq_none (by omega)]

def ANewP (n : Int) (w : World) (r : Ending) (w' : World) : Prop := Later w w' ∧
    (if 2 ≤ n ∧ n ≤ 128 then ∃ D, r = .returned (.tuple #[.agg #[.slice (some ⟨D, 0, none⟩) n.toNat n.toNat], .int .i64 0]) ∧ w.heap.size ≤ D ∧ Box w' D (flat encE (List.replicate n.toNat (0, 0))).toArray 47
     else r = .returned (.tuple #[.agg #[.slice none 0 0], .int .i64 2]))
set_option maxRecDepth 100000 in
set_option maxHeartbeats 2000000 in
theorem anew_c (n : Int) (w : World) : Calls Try.prog 31 #[.int .i64 n] w (ANewP n w) := by
  by_cases h : 2 ≤ n ∧ n ≤ 128
  · obtain ⟨k, rfl⟩ := Int.eq_ofNat_of_zero_le (show 0 ≤ n by omega)
    have hmk := make_eq (P := Try.prog) 25 47 (.agg #[.int .i64 0, .int .u64 0]) 2 16 Try.underlying25 infoS k (by omega) (by omega)
    obtain ⟨h1, h2⟩ := h
    have d1 : decide ((k : Int) < 2) = false := decide_eq_false (by omega)
    have d2 : decide (128 < (k : Int)) = false := decide_eq_false (by omega)
    go_enter Try.func31, Try.ntmps31
    go_wp2
    refine bodyPost_ret (v := .tuple #[.agg #[.slice (some ⟨w.heap.size + 1, 0, none⟩) k k], .int .i64 0]) (by rw [results_ct rfl]; go_simp) rfl ?_
    refine ⟨((Later.refl _).alloc _).alloc _, ?_⟩
    rw [if_pos ⟨h1, h2⟩]
    simp only [Int.toNat_natCast]
    refine ⟨w.heap.size + 1, rfl, by omega, ?_⟩
    have := Box.new (w.alloc (.cells #[.slice (some ⟨w.heap.size + 1, 0, none⟩) k k] 27)) (madeCells #[.int .i64 0, .int .u64 0] (k * 2)) 47
    rw [World.size_alloc] at this
    have e := made_flat enc_E (0, 0) k
    simp only [encE] at e
    rw [e] at this ⊢
    exact this
  · have HN := Lib.hid h
    rcases (show n < 2 ∨ (¬ n < 2 ∧ 128 < n) by omega) with h1 | ⟨h1, h2⟩
    all_goals
      clear h
      go_enter Try.func31, Try.ntmps31
      go_wp2
      refine bodyPost_ret (v := .tuple #[.agg #[.slice none 0 0], .int .i64 2]) (by rw [results_ct rfl]; go_simp) rfl ?_
      exact ⟨by first | exact ((Later.refl _).alloc _) | exact ((Later.refl _).alloc _).set (Nat.le_refl _) _, by rw [if_neg HN.out]⟩

theorem Box.rd {α : Type} {sz : Nat} {enc : α → List Value} (he : Enc sz enc) {W : World} {g : Nat} {xs : List α} {t : TypeId} (h : Box W g (flat enc xs).toArray t) : Rd sz enc W (some ⟨g, 0, none⟩) xs.length xs := by
  refine ⟨rfl, fun _ => ⟨g, 0, rfl, fun k x hx j v hv => ?_⟩⟩
  have hj : j < sz := by have := (List.getElem?_eq_some_iff.1 hv).1; rw [he.1 x] at this; exact this
  refine h.cell ?_
  have := flat_at he xs k j hj
  rw [hx, Option.bind_some, hv] at this
  simpa using this
theorem rdR_of {W : World} {g : Nat} {vals : Array Value} {t : TypeId} {rows : List (List E2)} (h : Box W g vals t)
    (hr : ∀ (j : Nat) (r : List E2), rows[j]? = some r → ∃ (A : Option Addr) (n c : Nat), vals[j]? = some (Value.slice A n c) ∧ n ≤ c ∧ c ≤ 9223372036854775807 ∧ Rd 2 encE W A n r) : RdR W (some ⟨g, 0, none⟩) rows.length rows := by
  refine ⟨rfl, fun _ => ⟨g, 0, rfl, fun k r hk => ?_⟩⟩
  obtain ⟨A, n, c, h1, h2, h3, h4⟩ := hr k r hk
  exact ⟨A, n, c, by rw [Nat.zero_add]; exact h.cell h1, h2, h3, h4⟩
/-- a new monitor -/
def newM (g s : Nat) : MonD := ⟨List.replicate s (0, 0), List.replicate g false, List.replicate g [], []⟩
def MNewP (g s : Int) (w : World) (r : Ending) (w' : World) : Prop := Later w w' ∧
    (if 1 ≤ g ∧ g ≤ 8 ∧ 2 ≤ s ∧ s ≤ 128 then ∃ v, r = .returned (.tuple #[v, .int .i64 0]) ∧ RMon 128 w' v (newM g.toNat s.toNat)
     else r = .returned (.tuple #[.agg #[.slice none 0 0, .slice none 0 0, .slice none 0 0, .slice none 0 0], .int .i64 2]))
def nwV (b : Nat) (k : Nat) : Nat → (Nat → Gh) → World → Prop
  | 2, t, W => Box W (t 2).n (madeCells #[.bool false] (k * 1)) 4 ∧ b ≤ (t 2).n
  | 4, t, W => Box W (t 4).n (madeCells #[.slice none 0 0] (k * 1)) 54 ∧ b ≤ (t 4).n
  | _, _, _ => True
def nwF (k : Nat) (_ : Nat) (s : Gh) : Value := .slice (some ⟨s.n, 0, none⟩) k k
def nwE (i : Nat) : Bool := i == 2 || i == 4
theorem nwVL (b k : Nat) : ∀ j t W W', nwV b k j t W → Later W W' → nwV b k j t W' := by
  intro j t W W' h hL
  unfold nwV at *
  split at h
  · exact ⟨h.1.later hL, h.2⟩
  · exact ⟨h.1.later hL, h.2⟩
  · trivial
theorem nwLoc (b k : Nat) : ∀ j (t t' : Nat → Gh) W, t j = t' j → (∀ k, k ∈ gU0 j → t k = t' k) → nwV b k j t W → nwV b k j t' W := by
  intro j t t' W h _ hV
  unfold nwV at *
  split at hV <;> simp_all
theorem infoRR : (Try.prog.info? 54).map (fun i => (i.zero, i.size, i.bytes)) = some (some (.slice none 0 0), 1, 24) := by kernel_rfl

set_option maxRecDepth 100000 in
set_option maxHeartbeats 4000000 in
theorem mnew_c (g s : Int) (w : World) : Calls Try.prog 8 #[.int .i64 g, .int .i64 s] w (MNewP g s w) := by
  obtain ⟨wb, hwb, hL, -, f1, f2⟩ := box1 w #[.slice none 0 0, .slice none 0 0, .slice none 0 0, .slice none 0 0] 32
  have b4 : Box wb w.heap.size #[.slice none 0 0, .slice none 0 0, .slice none 0 0, .slice none 0 0] 32 := by rw [← hwb.out]; exact Box.new _ _ _
  have B4 := Lib.hid b4
  clear f1 f2 b4
  by_cases hg : 1 ≤ g ∧ g ≤ 8
  · obtain ⟨k, rfl⟩ := Int.eq_ofNat_of_zero_le (show 0 ≤ g by omega)
    obtain ⟨hg1, hg2⟩ := hg
    have d1 : decide ((k : Int) < 1) = false := decide_eq_false (by omega)
    have d2 : decide (8 < (k : Int)) = false := decide_eq_false (by omega)
    have hmkB := make_eq (P := Try.prog) 28 4 (.bool false) 1 1 Try.underlying28 infoB k (by omega) (by omega)
    have hmkR := make_eq (P := Try.prog) 29 54 (.slice none 0 0) 1 24 Try.underlying29 infoRR k (by omega) (by omega)
    by_cases hs : 2 ≤ s ∧ s ≤ 128
    · have HS := Lib.hid hs
      have cN : Hid (∀ W, Calls Try.prog 31 #[.int .i64 s] W fun r w' => ∃ D, r = .returned (.tuple #[.agg #[.slice (some ⟨D, 0, none⟩) s.toNat s.toNat], .int .i64 0]) ∧ Later W w' ∧ W.heap.size ≤ D ∧ Box w' D (flat encE (List.replicate s.toNat (0, 0))).toArray 47) := fun W => (anew_c s W).mono fun r w' h => by
        obtain ⟨h1, h2⟩ := h
        rw [if_pos hs] at h2
        obtain ⟨D, e, h3, h4⟩ := h2
        exact ⟨D, e, h1, h3, h4⟩
      clear hs
      go_enter Try.func8, Try.ntmps8
      go_wp2_with fail
      rw [hwb.out]
      refine (cN.out _).mono ?_
      rintro e w1 ⟨D, rfl, hL1, hD, hB⟩
      have b4 := B4.out.later hL1
      obtain ⟨w2, hw2⟩ : ∃ w2, w1.alloc (.cells #[.slice (some ⟨D, 0, none⟩) s.toNat s.toNat] 27) = w2 := ⟨_, rfl⟩
      have hL2 : Later w1 w2 := by rw [← hw2]; exact (Later.refl _).alloc _
      have b6 : Box w2 w1.heap.size #[.slice (some ⟨D, 0, none⟩) s.toNat s.toNat] 27 := by rw [← hw2]; exact Box.new _ _ _
      have c6 := cel (b6.cell (i := 0) rfl)
      have HB := Lib.hid (hB.later hL2)
      have B4' := Lib.hid (b4.later hL2)
      have hz1 := hL1.sz
      have hz2 := hL2.sz
      clear hB b4 b6
      go_wp2
      refine region_ghost (S := Later w2) (af := ?_) 5 (nwF k) (nwV w2.heap.size k) nwE gU0 (by kernel_rfl) (by kernel_rfl) (by kernel_rfl) (by decide) (by kernel_rfl) (fun _ h => h.drew) (Later.refl _) (fun _ _ h h2 => h.trans h2) (nwVL _ _) (nwLoc _ _) ?_ ?_
      rotate_left
      · intro t
        repeat (first
          | (refine SeqT.val (v := ?_) (by rfl) (by rfl) (fun W hW => ?_) ?_; rotate_left; (· (go_simp; try with_reducible rfl)); try simp only [Act.put, List.setIfInBounds_toArray, List.set_cons_zero, List.set_cons_succ])
          | (refine SeqT.skip (by rfl) (by rfl) ?_; try simp only [Act.put, List.setIfInBounds_toArray, List.set_cons_zero, List.set_cons_succ])
          | (refine SeqT.make (.slice (some ⟨(t 2).n, 0, none⟩) k k) (by rfl) (by rfl) (by rfl) (fun W hW hd => ?_) ?_; (· (exact ⟨⟨none, W.heap.size, 0, undef⟩, W.alloc (.cells (madeCells #[.bool false] (k * 1)) 4), by go_simp; first | rfl | exact ⟨rfl, rfl⟩, ⟨Box.new _ _ _, hW.sz⟩, (Later.refl W).alloc _⟩)); try simp only [Act.put, List.setIfInBounds_toArray, List.set_cons_zero, List.set_cons_succ])
          | (refine SeqT.make (.slice (some ⟨(t 4).n, 0, none⟩) k k) (by rfl) (by rfl) (by rfl) (fun W hW hd => ?_) ?_; (· (exact ⟨⟨none, W.heap.size, 0, undef⟩, W.alloc (.cells (madeCells #[.slice none 0 0] (k * 1)) 54), by go_simp; first | rfl | exact ⟨rfl, rfl⟩, ⟨Box.new _ _ _, hW.sz⟩, (Later.refl W).alloc _⟩)); try simp only [Act.put, List.setIfInBounds_toArray, List.set_cons_zero, List.set_cons_succ])
          )
        exact SeqT.nil _
      intro t W hW hV
      refine wpList_is (l' := [_, _, _]) rfl ?_
      have h2 := hV 2 (by decide) rfl
      have h4 := hV 4 (by decide) rfl
      simp only [nwV] at h2 h4
      generalize (t 2).n = b2 at *
      generalize (t 4).n = b3 at *
      clear hV
      have q4 := B4'.out.later hW
      obtain ⟨wz, hwz, hzg, hzo, hzl, hzr⟩ := store4 (show W.heap[w.heap.size]? = _ from q4) (.slice (some ⟨D, 0, none⟩) s.toNat s.toNat) (.slice (some ⟨b2, 0, none⟩) k k) (.slice (some ⟨b3, 0, none⟩) k k) (.slice none 0 0)
      have p0 := q4.cell (i := 0) rfl
      have p1 := q4.cell (i := 1) rfl
      have p2 := q4.cell (i := 2) rfl
      have p3 := q4.cell (i := 3) rfl
      have fz := q4.frozen
      have hzz : w.heap.size < wb.heap.size := B4.out.lt
      have hLz : Later w wz := hzl w (hL.trans (hL1.trans (hL2.trans hW))) (Nat.le_refl _)
      have eB := made_flat enc_B false k
      simp only [encB] at eB
      have zD : Box wz D (flat encE (List.replicate s.toNat (0, 0))).toArray 47 := by show wz.heap[D]? = _; rw [hzo D (by omega)]; exact HB.out.later hW
      have z2 : Box wz b2 (flat encB (List.replicate k false)).toArray 4 := by show wz.heap[b2]? = _; rw [hzo b2 (by omega), ← eB]; exact h2.1
      have z3 : Box wz b3 (madeCells #[.slice none 0 0] (k * 1)) 54 := by show wz.heap[b3]? = _; rw [hzo b3 (by omega)]; exact h4.1
      have hsn : s.toNat ≤ 128 := by have := HS.out; omega
      have hM : RMon 128 wz (.agg #[.slice (some ⟨D, 0, none⟩) s.toNat s.toNat, .slice (some ⟨b2, 0, none⟩) k k, .slice (some ⟨b3, 0, none⟩) k k, .slice none 0 0]) (newM k s.toNat) := by
        refine ⟨_, _, _, _, _, _, _, _, _, _, _, _, rfl, ?_, ?_, ?_, Rd.nil _ _ _, ⟨hsn, by omega, by omega, by omega, fun l hl => ?_⟩, ⟨Nat.le_refl _, by omega, Nat.le_refl _, by omega, Nat.le_refl _, by omega, Nat.le_refl _, by omega⟩⟩
        · have := zD.rd enc_E; rwa [List.length_replicate] at this
        · have := z2.rd enc_B; rwa [List.length_replicate] at this
        · have := rdR_of (rows := List.replicate k []) z3 fun j r hr => ?_
          · rwa [List.length_replicate] at this
          · rw [List.getElem?_replicate] at hr
            split at hr
            · cases hr
              refine ⟨none, 0, 0, ?_, Nat.le_refl _, by omega, Rd.nil _ _ _⟩
              rw [← Array.getElem?_toList, Nat.mul_one, toList_madeCells_one, List.getElem?_replicate, if_pos (by assumption)]
            · cases hr
        · simp only [newM, List.mem_replicate] at hl
          rw [hl.2]; simp
      have c0 := heap_cell hzg (i := 0) rfl
      have c1 := heap_cell hzg (i := 1) rfl
      have c2 := heap_cell hzg (i := 2) rfl
      have c3 := heap_cell hzg (i := 3) rfl
      have HM := Lib.hid hM
      clear hM zD z2 z3 hzg hzo hzl hzr h2 h4 eB q4
      go_wp2
      rw [hwz.out]
      refine bodyPost_ret (v := .tuple #[.agg #[.slice (some ⟨D, 0, none⟩) s.toNat s.toNat, .slice (some ⟨b2, 0, none⟩) k k, .slice (some ⟨b3, 0, none⟩) k k, .slice none 0 0], .int .i64 0]) (by rw [results_ct rfl]; go_simp) rfl ?_
      refine ⟨hLz, ?_⟩
      rw [if_pos (by have := HS.out; omega)]
      exact ⟨_, rfl, by simp only [Int.toNat_natCast]; exact HM.out⟩
    · have HS := Lib.hid hs
      have cN : Hid (∀ W, Calls Try.prog 31 #[.int .i64 s] W fun r w' => r = .returned (.tuple #[.agg #[.slice none 0 0], .int .i64 2]) ∧ Later W w') := fun W => (anew_c s W).mono fun r w' h => by
        obtain ⟨h1, h2⟩ := h
        rw [if_neg hs] at h2
        exact ⟨h2, h1⟩
      clear hs
      go_enter Try.func8, Try.ntmps8
      go_wp2_with fail
      rw [hwb.out]
      refine (cN.out _).mono ?_
      rintro e w1 ⟨rfl, hL1⟩
      have b4 := (B4.out.later hL1).alloc (.cells #[.slice none 0 0] 27)
      have c0 := b4.cell (i := 0) rfl
      have c1 := b4.cell (i := 1) rfl
      have c2 := b4.cell (i := 2) rfl
      have c3 := b4.cell (i := 3) rfl
      have fz := b4.frozen
      have hz1 := hL1.sz
      have hzz : w.heap.size < wb.heap.size := B4.out.lt
      clear b4
      go_wp2
      refine bodyPost_ret (v := .tuple #[.agg #[.slice none 0 0, .slice none 0 0, .slice none 0 0, .slice none 0 0], .int .i64 2]) (by rw [results_ct rfl]; go_simp) rfl ?_
      refine ⟨((((((hL.trans hL1).alloc _).set (Nat.le_refl _) _).set (Nat.le_refl _) _).set (Nat.le_refl _) _).set (Nat.le_refl _) _), ?_⟩
      rw [if_neg (fun h => HS.out ⟨h.2.2.1, h.2.2.2⟩)]
  · have HN : Hid (¬ (1 ≤ g ∧ g ≤ 8 ∧ 2 ≤ s ∧ s ≤ 128)) := fun h => hg ⟨h.1, h.2.1⟩
    rcases (show g < 1 ∨ (¬ g < 1 ∧ 8 < g) by omega) with h1 | ⟨h1, h2⟩
    all_goals
      clear hg
      go_enter Try.func8, Try.ntmps8
      go_wp2
      refine bodyPost_ret (v := .tuple #[.agg #[.slice none 0 0, .slice none 0 0, .slice none 0 0, .slice none 0 0], .int .i64 2]) (by rw [results_ct rfl]; go_simp) rfl ?_
      refine ⟨?_, by rw [if_neg HN.out]⟩
      first
      | exact (Later.refl _).alloc _
      | exact ((((((Later.refl _).alloc _).set (Nat.le_refl _) _).set (Nat.le_refl _) _).set (Nat.le_refl _) _).set (Nat.le_refl _) _)
end Go.Proofs.Ytdheckfndldbmaa
