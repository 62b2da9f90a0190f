/- A region that draws its order and holds calls and allocs whose values are not known ahead: each such value is f of a ghost that meets V from then on. | The laws' own: a monitor in memory of its own; watch. | Who holds an entry: the iterator, Holders and Safe. | What changes: the blocks of a set, and new ones; nothing else. | Holders and Safe. -/
import Derived.Test.YtdheckfndldbmaaM06
import Derived.RangeFuncNested
import Derived.RangeFuncBound
import Derived.RangeFuncCalls
import Derived.RangeFuncLeaves
import Derived.OwnWalkIn
import Derived.TacticsInMore
import Derived.LoopNIn
import Derived.LoopIn
import Derived.Lib.Hide
import Derived.RangeFuncOwn
import Derived.RangeFuncBox
import Derived.RangeFuncFrom
import Derived.Maps.AppendAt
namespace Go.Proofs.Ytdheckfndldbmaa
open Go.RowKit

/-- what is not known ahead of an operation's value -/
structure Gh where
  A : Option Addr
  n : Nat
  c : Nat
  v : Value
instance : Inhabited Gh := ⟨⟨none, 0, 0, undef⟩⟩

def upd (t : Nat → Gh) (i : Nat) (s : Gh) : Nat → Gh := fun j => if j = i then s else t j

section
variable {P : Program} {ops : Array Oper} {Q : Exit → Act → World → Prop} {S : World → Prop} {eff : Nat → Bool} {f : Nat → Gh → Value} {V : Nat → (Nat → Gh) → World → Prop}

def RunE (P : Program) (f : Gh → Value) (V : Gh → World → Prop) (W : World) : Result Next → Prop
  | .ok (.value u) W' => ∃ s, u = f s ∧ V s W' ∧ Later W W'
  | .ok (.enter g args) W' => Calls P g args W' fun e W'' => ∃ s, e = .returned (f s) ∧ V s W'' ∧ Later W W''
  | _ => False
def OpP (P : Program) (ops : Array Oper) (S : World → Prop) (o : Oper) (a : Act) (v : Value) : Prop :=
  (Region.wanted o (yielded ops a.tmps) = true ∧ ∀ W, S W → (execOp a.eval o).run P W = .ok (.value v) W) ∨
  (Region.wanted o (yielded ops a.tmps) = false ∧ v = undef)
def OpE (P : Program) (ops : Array Oper) (S : World → Prop) (eff : Nat → Bool) (f : Nat → Gh → Value) (V : Nat → (Nat → Gh) → World → Prop) (t : Nat → Gh) (k : Nat) (o : Oper) (a : Act) : Prop :=
  Region.wanted o (yielded ops a.tmps) = true ∧ ∀ W, S W → (∀ j, eff j = true → (∃ e ∈ o.after, Region.binds .any e = true ∧ e.on = j) → V j t W) → RunE P (f k) (fun s => V k (upd t k s)) W ((execOp a.eval o).run P W)
/-- one operation in the text's order -/
def OpT (P : Program) (ops : Array Oper) (S : World → Prop) (eff : Nat → Bool) (f : Nat → Gh → Value) (V : Nat → (Nat → Gh) → World → Prop) (t : Nat → Gh) (k : Nat) (o : Oper) (a : Act) (v : Value) : Prop :=
  if eff k = true then v = f k (t k) ∧ OpE P ops S eff f V t k o a else OpP P ops S o a v
def SeqT (P : Program) (ops : Array Oper) (S : World → Prop) (eff : Nat → Bool) (f : Nat → Gh → Value) (V : Nat → (Nat → Gh) → World → Prop) (t : Nat → Gh) : Nat → List Oper → Act → Act → Prop
  | _, [], a, af => a = af
  | k, o :: rest, a, af => ∃ v, OpT P ops S eff f V t k o a v ∧ SeqT P ops S eff f V t (k + 1) rest (a.put o.dst v) af

theorem SeqT.nil {t : Nat → Gh} {k : Nat} (a : Act) : SeqT P ops S eff f V t k [] a a := rfl
theorem SeqT.val {t : Nat → Gh} {k : Nat} {o : Oper} {rest : List Oper} {a af : Act} {v : Value} (he : eff k = false) (hw : Region.wanted o (yielded ops a.tmps) = true) (h : ∀ W, S W → (execOp a.eval o).run P W = .ok (.value v) W)
    (hr : SeqT P ops S eff f V t (k + 1) rest (a.put o.dst v) af) : SeqT P ops S eff f V t k (o :: rest) a af := ⟨v, by simp only [OpT, he, Bool.false_eq_true, if_false]; exact .inl ⟨hw, h⟩, hr⟩
theorem SeqT.skip {t : Nat → Gh} {k : Nat} {o : Oper} {rest : List Oper} {a af : Act} (he : eff k = false) (hw : Region.wanted o (yielded ops a.tmps) = false)
    (hr : SeqT P ops S eff f V t (k + 1) rest (a.put o.dst undef) af) : SeqT P ops S eff f V t k (o :: rest) a af := ⟨undef, by simp only [OpT, he, Bool.false_eq_true, if_false]; exact .inr ⟨hw, rfl⟩, hr⟩
theorem SeqT.call {t : Nat → Gh} {k : Nat} {o : Oper} {rest : List Oper} {a af : Act} {g : FuncId} {args : Array Value} (v : Value) (he : eff k = true) (hw : Region.wanted o (yielded ops a.tmps) = true)
    (hv : f k (t k) = v) (hx : ∀ W, S W → (execOp a.eval o).run P W = .ok (.enter g args) W)
    (h : ∀ W, S W → (∀ j, eff j = true → (∃ e ∈ o.after, Region.binds .any e = true ∧ e.on = j) → V j t W) → Calls P g args W fun e W' => ∃ s, e = .returned (f k s) ∧ V k (upd t k s) W' ∧ Later W W')
    (hr : SeqT P ops S eff f V t (k + 1) rest (a.put o.dst v) af) : SeqT P ops S eff f V t k (o :: rest) a af :=
  ⟨v, by simp only [OpT, he, if_true]; exact ⟨hv.symm, hw, fun W hW hj => by rw [hx W hW]; exact h W hW hj⟩, hr⟩
/-- an alloc, or another builtin that makes a new block -/
theorem SeqT.make {t : Nat → Gh} {k : Nat} {o : Oper} {rest : List Oper} {a af : Act} (v : Value) (he : eff k = true) (hw : Region.wanted o (yielded ops a.tmps) = true)
    (hv : f k (t k) = v) (h : ∀ W, S W → (∀ j, eff j = true → (∃ e ∈ o.after, Region.binds .any e = true ∧ e.on = j) → V j t W) → ∃ s W', (execOp a.eval o).run P W = .ok (.value (f k s)) W' ∧ V k (upd t k s) W' ∧ Later W W')
    (hr : SeqT P ops S eff f V t (k + 1) rest (a.put o.dst v) af) : SeqT P ops S eff f V t k (o :: rest) a af :=
  ⟨v, by simp only [OpT, he, if_true]; exact ⟨hv.symm, hw, fun W hW hj => by obtain ⟨s, W', h1, h2, h3⟩ := h W hW hj; rw [h1]; exact ⟨s, rfl, h2, h3⟩⟩, hr⟩

theorem SeqT.vals (hk : OkL ops) {t : Nat → Gh} : ∀ (rest : List Oper) (k : Nat) (a af : Act), (∀ j, j < rest.length → rest[j]? = ops[k + j]?) → SeqT P ops S eff f V t k rest a af → ∀ (vals : Nat → Value) (a0 : Act), At ops vals a0 (fun i => i < k) a →
    ∃ vals' : Nat → Value, (∀ i, i < k → vals' i = vals i) ∧ At ops vals' a0 (fun i => i < k + rest.length) af ∧
      ∀ (i : Nat) (o : Oper), ops[i]? = some o → k ≤ i → i < k + rest.length → ∃ b, At ops vals' a0 (fun j => j < i) b ∧ OpT P ops S eff f V t i o b (vals' i)
  | [], k, a, af, hl, h, vals, a0, hA => by
    obtain rfl : a = af := h
    exact ⟨vals, fun _ _ => rfl, by simpa using hA, fun i o ho hki hlt => by simp at hlt; omega⟩
  | o :: rest, k, a, af, hl, h, vals, a0, hA => by
    obtain ⟨v, hv, hr⟩ := h
    have hok : ops[k]? = some o := by have := hl 0 (by simp); simpa using this.symm
    let vals1 : Nat → Value := fun i => if i = k then v else vals i
    have hA1 : At ops vals1 a0 (fun i => i < k) a := ⟨hA.size, hA.defers, fun i oi d hi hd hD => by
      have hne : i ≠ k := by omega
      simp only [vals1, if_neg hne]; exact hA.did i oi d hi hd hD, hA.not⟩
    have hA2 : At ops vals1 a0 (fun i => i < k + 1) (a.put o.dst v) := by
      have h2 := hA1.put hk hok
      have hv1 : vals1 k = v := by simp [vals1]
      rw [hv1] at h2
      refine ⟨h2.size, h2.defers, fun i oi d hi hd hD => h2.did i oi d hi hd (by omega), fun d hn => h2.not d fun i oi hi hd hD => hn i oi hi hd (by omega)⟩
    obtain ⟨vals', h1, h2, h3⟩ := SeqT.vals hk rest (k + 1) (a.put o.dst v) af (fun j hj => by have := hl (j + 1) (by simp; omega); rw [show k + 1 + j = k + (j + 1) by omega, ← this]; rfl) hr vals1 a0 hA2
    have hvk : vals' k = v := by rw [h1 k (by omega)]; simp [vals1]
    refine ⟨vals', fun i hi => by rw [h1 i (by omega)]; simp [vals1]; omega, by rw [show k + (o :: rest).length = k + 1 + rest.length by simp; omega]; exact h2, fun i oi hi hki hlt => ?_⟩
    by_cases hik : i = k
    · subst hik
      rw [hok] at hi; cases hi
      refine ⟨a, ⟨hA1.size, hA1.defers, fun j oj d hj hd hD => ?_, hA1.not⟩, by rw [hvk]; exact hv⟩
      rw [h1 j (by omega)]
      exact hA1.did j oj d hj hd hD
    · exact h3 i oi hi (by omega) (by simp at hlt; omega)

/-- frames that look alike to an operation -/
theorem same_exec (hk : OkL ops) {i : Nat} {o : Oper} (ho : ops[i]? = some o) {a a' : Act} (hs : ∀ d ∈ o.looksAt ops, a.tmps[d]? = a'.tmps[d]?) :
    execOp a.eval o = execOp a'.eval o ∧ Region.wanted o (yielded ops a.tmps) = Region.wanted o (yielded ops a'.tmps) := by
  constructor
  · exact execOp_congr o (hk.sel i o ho) fun x hx => by
      cases x with
      | tmp t =>
        have := hs t (List.mem_append_left _ (List.mem_filterMap.2 ⟨.tmp t, by simpa using hx, rfl⟩))
        simp only [Act.eval, Array.getD_eq_getD_getElem?, this]
      | _ => rfl
  · unfold Region.wanted
    cases hg : o.guard with
    | none => rfl
    | some gw =>
      obtain ⟨g, want⟩ := gw
      have hy : yielded ops a.tmps g = yielded ops a'.tmps g := by
        unfold yielded
        cases ht : (ops[g]?).bind (·.dst) with
        | none => rfl
        | some t =>
          have := hs t (by simp [Oper.looksAt, hg, ht])
          simp [this]
      simp only [hy]
theorem At.alike (hk : OkL ops) {vals vals' : Nat → Value} {a0 : Act} {D D' : Nat → Prop} {a a' : Act} (h : At ops vals a0 D a) (h' : At ops vals' a0 D' a') {i : Nat} {o : Oper} (ho : ops[i]? = some o)
    (hD : ∀ e ∈ o.after, Region.binds .any e = true → D e.on) (hD' : ∀ e ∈ o.after, Region.binds .any e = true → D' e.on) (hv : ∀ e ∈ o.after, Region.binds .any e = true → vals e.on = vals' e.on) :
    ∀ d ∈ o.looksAt ops, a.tmps[d]? = a'.tmps[d]? := by
  intro d hl
  by_cases hex : ∃ (j : Nat) (oj : Oper), ops[j]? = some oj ∧ oj.dst = some d
  · obtain ⟨j, oj, hj, hdj⟩ := hex
    obtain ⟨e, he, hb, rfl⟩ := hk.look i o j oj d ho hj hdj hl
    rw [h.did _ oj d hj hdj (hD e he hb), h'.did _ oj d hj hdj (hD' e he hb), hv e he hb]
  · rw [h.not d fun j oj hj hdj _ => hex ⟨j, oj, hj, hdj⟩, h'.not d fun j oj hj hdj _ => hex ⟨j, oj, hj, hdj⟩]
theorem At.eq {vals : Nat → Value} {a0 : Act} {D D' : Nat → Prop} {a a' : Act} (h : At ops vals a0 D a) (h' : At ops vals a0 D' a') (hD : ∀ i, i < ops.size → (D i ↔ D' i)) : a = a' := by
  obtain ⟨t, d⟩ := a
  obtain ⟨t', d'⟩ := a'
  have h1 : t = t' := by
    apply Array.ext_getElem?
    intro x
    by_cases hex : ∃ (j : Nat) (oj : Oper), ops[j]? = some oj ∧ oj.dst = some x ∧ D j
    · obtain ⟨j, oj, hj, hdj, hDj⟩ := hex
      have hjs : j < ops.size := (Array.getElem?_eq_some_iff.1 hj).1
      have e1 := h.did j oj x hj hdj hDj
      have e2 := h'.did j oj x hj hdj ((hD j hjs).1 hDj)
      simp only at e1 e2
      rw [e1, e2]
    · have e1 := h.not x fun j oj hj hdj hDj => hex ⟨j, oj, hj, hdj, hDj⟩
      have e2 := h'.not x fun j oj hj hdj hDj => hex ⟨j, oj, hj, hdj, (hD j (Array.getElem?_eq_some_iff.1 hj).1).2 hDj⟩
      simp only at e1 e2
      rw [e1, e2]
  have h2 : d = d' := h.defers.trans h'.defers.symm
  rw [h1, h2]

/-- what has come up does not hang on what has not -/
theorem vals_agree (hk : OkL ops) {a0 : Act} {n : Nat} {val : (Nat → Gh) → Nat → Value} {W : World} (hS : S W)
    (hv : ∀ t (i : Nat) (o : Oper), ops[i]? = some o → i < n → ∃ b, At ops (val t) a0 (fun j => j < i) b ∧ OpT P ops S eff f V t i o b (val t i))
    {D : Nat → Prop} (hcl : ∀ j, D j → ∀ o, ops[j]? = some o → ∀ e ∈ o.after, Region.binds .any e = true → D e.on) {i0 : Nat} (hi0 : ¬ D i0) {t t' : Nat → Gh} (ht : ∀ j, j ≠ i0 → t j = t' j) :
    ∀ j, j < n → D j → j < ops.size → val t j = val t' j := by
  intro j
  induction j using Nat.strongRecOn with
  | _ j ih =>
    intro hj hD hjs
    have ho : ops[j]? = some ops[j] := by simp [hjs]
    obtain ⟨b, hb, h1⟩ := hv t j _ ho hj
    obtain ⟨b', hb', h2⟩ := hv t' j _ ho hj
    have hne : j ≠ i0 := fun e => hi0 (e ▸ hD)
    cases he : eff j with
    | true =>
      simp only [OpT, he, if_true] at h1 h2
      rw [h1.1, h2.1, ht j hne]
    | false =>
      simp only [OpT, he, Bool.false_eq_true, if_false] at h1 h2
      obtain ⟨hx, hw⟩ := same_exec hk ho (At.alike hk hb hb' ho (fun e he hb => hk.ahead j _ ho e he hb) (fun e he hb => hk.ahead j _ ho e he hb)
        (fun e he hbd => by
          have hlt := hk.ahead j _ ho e he hbd
          exact ih e.on hlt (by omega) (hcl j hD _ ho e he hbd) (by omega)))
      rcases h1 with ⟨w1, r1⟩ | ⟨w1, r1⟩ <;> rcases h2 with ⟨w2, r2⟩ | ⟨w2, r2⟩
      · have e1 := r1 W hS
        rw [hx, r2 W hS] at e1
        simpa using e1.symm
      · rw [hw, w2] at w1; cases w1
      · rw [hw, w2] at w1; cases w1
      · rw [r1, r2]

/-- whom an operation waits for, through others too: bits -/
def maskOf (ms : List Nat) (o : Oper) : Nat := o.after.toList.foldl (fun m e => if Region.binds .any e then m ||| (1 <<< e.on) ||| ms.getD e.on 0 else m) 0
def masks (ops : Array Oper) : Nat → List Nat
  | 0 => []
  | k + 1 => let ms := masks ops k; ms ++ [match ops[k]? with | some o => maskOf ms o | none => 0]
def mk1 (ops : Array Oper) (i : Nat) : Nat := match ops[i]? with | some o => maskOf (masks ops i) o | none => 0
theorem masks_len (ops : Array Oper) : ∀ k, (masks ops k).length = k
  | 0 => rfl
  | k + 1 => by simp [masks, masks_len ops k]
theorem masks_at (ops : Array Oper) : ∀ (k i : Nat), i < k → (masks ops k).getD i 0 = mk1 ops i
  | 0, i, h => by omega
  | k + 1, i, h => by
    have hl := masks_len ops k
    have e : masks ops (k + 1) = masks ops k ++ [mk1 ops k] := rfl
    rw [e]
    by_cases hi : i < k
    · rw [← masks_at ops k i hi, List.getD_eq_getElem?_getD, List.getD_eq_getElem?_getD, List.getElem?_append_left (by omega)]
    · obtain rfl : i = k := by omega
      rw [List.getD_eq_getElem?_getD, List.getElem?_append_right (by omega), hl]; simp
theorem foldl_bit (ms : List Nat) (j : Nat) : ∀ (l : List Edge) (m : Nat), (l.foldl (fun m e => if Region.binds .any e then m ||| (1 <<< e.on) ||| ms.getD e.on 0 else m) m).testBit j = true →
    m.testBit j = true ∨ ∃ e ∈ l, Region.binds .any e = true ∧ (e.on = j ∨ (ms.getD e.on 0).testBit j = true)
  | [], m, h => .inl h
  | e :: l, m, h => by
    rw [List.foldl_cons] at h
    rcases foldl_bit ms j l _ h with h | ⟨e', he, h1, h2⟩
    · by_cases hb : Region.binds .any e = true
      · rw [if_pos hb, Nat.testBit_or, Nat.testBit_or, Bool.or_eq_true, Bool.or_eq_true] at h
        rcases h with (h | h) | h
        · exact .inl h
        · refine .inr ⟨e, List.mem_cons_self, hb, .inl ?_⟩
          rw [Nat.one_shiftLeft, Nat.testBit_two_pow] at h
          simpa using h
        · exact .inr ⟨e, List.mem_cons_self, hb, .inr h⟩
      · rw [if_neg hb] at h; exact .inl h
    · exact .inr ⟨e', List.mem_cons_of_mem _ he, h1, h2⟩
theorem anc_closed (hk : OkL ops) {D : Nat → Prop} (hcl : ∀ j, D j → ∀ o, ops[j]? = some o → ∀ e ∈ o.after, Region.binds .any e = true → D e.on) :
    ∀ (i : Nat) (o : Oper), ops[i]? = some o → (∀ e ∈ o.after, Region.binds .any e = true → D e.on) → ∀ j, (mk1 ops i).testBit j = true → D j := by
  intro i
  induction i using Nat.strongRecOn with
  | _ i ih =>
    intro o ho hd j hj
    unfold mk1 at hj
    rw [ho] at hj
    rcases foldl_bit _ _ _ _ hj with h | ⟨e, he, hb, h⟩
    · simp at h
    · have hem : e ∈ o.after := by simpa using he
      have hlt := hk.ahead i o ho e hem hb
      rcases h with h | h
      · subst h; exact hd e hem hb
      · rw [masks_at ops i e.on hlt] at h
        have his : i < ops.size := (Array.getElem?_eq_some_iff.1 ho).1
        have hes : e.on < ops.size := by omega
        have hos : ops[e.on]? = some ops[e.on] := by simp [hes]
        exact ih e.on hlt _ hos (fun e' he' hb' => hcl e.on (hd e hem hb) _ hos e' he' hb') j h
/-- from n on each operation waits for all those ahead of it -/
def tailOk (n : Nat) (ops : Array Oper) : Bool := let ms := masks ops ops.size; (List.range ops.size).all fun i => decide (i < n) || ms.getD i 0 == 2 ^ i - 1
theorem tailOk_spec (hk : OkL ops) {n : Nat} (h : tailOk n ops = true) {D : Nat → Prop} (hcl : ∀ j, D j → ∀ o, ops[j]? = some o → ∀ e ∈ o.after, Region.binds .any e = true → D e.on)
    {i : Nat} {o : Oper} (hi : n ≤ i) (ho : ops[i]? = some o) (hd : ∀ e ∈ o.after, Region.binds .any e = true → D e.on) : ∀ j, j < i → D j := by
  intro j hj
  have his : i < ops.size := (Array.getElem?_eq_some_iff.1 ho).1
  have := List.all_eq_true.1 h i (List.mem_range.2 his)
  rw [masks_at ops _ i his] at this
  simp only [Bool.or_eq_true, decide_eq_true_eq, beq_iff_eq] at this
  rcases this with h | h
  · omega
  · refine anc_closed hk hcl i o ho hd j ?_
    rw [h, Nat.testBit_two_pow_sub_one]; simpa using hj


/-- the tail goes in the text's order -/
theorem wpAny_tail (hk : OkL ops) {n : Nat} (htail : tailOk n ops = true) : ∀ (fuel m : Nat) (listed : Array Bool) (a : Act) (w : World), n ≤ m → m ≤ ops.size → listed.size = ops.size → ops.size - m ≤ fuel →
    (∀ j, listed.getD j false = true ↔ j < m) → wpList P ops Q (ops.toList.drop m) a w → wpAny P .any ops Q fuel listed a w := by
  have nextIs : ∀ (m : Nat) (listed : Array Bool), n ≤ m → m ≤ ops.size → listed.size = ops.size → (∀ j, listed.getD j false = true ↔ j < m) → ∀ i ∈ Region.ready .any ops listed, i = m := by
    intro m listed hnm hms hsz hD i hi
    obtain ⟨hun, o, ho, hall⟩ := mem_ready.1 hi
    have his : i < ops.size := (Array.getElem?_eq_some_iff.1 ho).1
    have hni : ¬ i < m := by
      intro h
      have h1 := (hD i).2 h
      have hlt : i < listed.size := by omega
      simp [hlt] at h1 hun
      simp_all
    by_cases him : i = m
    · exact him
    · exfalso
      have hcl : ∀ j, (j < m) → ∀ o, ops[j]? = some o → ∀ e ∈ o.after, Region.binds .any e = true → e.on < m := fun j hj o ho e he hb => by have := hk.ahead j o ho e he hb; omega
      have := tailOk_spec hk htail (D := fun j => j < m) hcl (i := i) (o := o) (by omega) ho (fun e he hb => (hD _).1 (hall e he hb)) m (by omega)
      omega
  intro fuel
  induction fuel with
  | zero =>
    intro m listed a w hnm hms hsz hf hD h
    obtain rfl : m = ops.size := by omega
    have hr : Region.ready .any ops listed = [] := by
      refine List.eq_nil_iff_forall_not_mem.2 fun i hi => ?_
      have := nextIs _ listed hnm hms hsz hD i hi
      obtain ⟨_, o, ho, _⟩ := mem_ready.1 hi
      have := (Array.getElem?_eq_some_iff.1 ho).1
      omega
    refine ⟨hr, ?_⟩
    rw [List.drop_eq_nil_of_le (by simp)] at h
    exact h
  | succ fuel ih =>
    intro m listed a w hnm hms hsz hf hD h
    refine ⟨fun hr => ?_, fun i hi => ?_⟩
    · -- nothing ready: all is listed
      by_cases hm : m = ops.size
      · subst hm
        rw [List.drop_eq_nil_of_le (by simp)] at h
        exact h
      · exfalso
        have hmem : m ∈ Region.ready .any ops listed := mem_ready.2 ⟨by
          have h1 : ¬ listed.getD m false = true := fun h => by have := (hD m).1 h; omega
          have hlt : m < listed.size := by omega
          simp [hlt] at h1 ⊢; exact h1, ops[m], by simp [show m < ops.size by omega], fun e he hb => (hD _).2 (hk.ahead m ops[m] (by simp [show m < ops.size by omega]) e he hb)⟩
        rw [hr] at hmem; cases hmem
    · obtain rfl : i = m := nextIs m listed hnm hms hsz hD i hi
      obtain ⟨_, o, ho, _⟩ := mem_ready.1 hi
      have his : i < ops.size := (Array.getElem?_eq_some_iff.1 ho).1
      have ho' : ops.toList[i]? = some o := by simpa using ho
      have hdrop : ops.toList.drop i = o :: ops.toList.drop (i + 1) := by
        obtain ⟨hl, rfl⟩ := List.getElem?_eq_some_iff.1 ho'
        exact List.drop_eq_getElem_cons hl
      rw [hdrop] at h
      have hlt : i < listed.size := by omega
      have hgo := fun a' w' => ih (i + 1) (listed.setIfInBounds i true) a' w' (by omega) (by omega) (by simp [hsz]) (by omega) (fun j => by
        by_cases hji : j = i
        · subst hji; simp [hlt]
        · rw [getD_set_ne false (Ne.symm hji), hD j]; omega)
      refine wpOp_mono hgo ?_
      unfold Go.wpOp
      simp only [ho]
      exact h

theorem wpAny_of_T (hk : OkL ops) {a0 : Act} {n : Nat} {af : (Nat → Gh) → Act} {val : (Nat → Gh) → Nat → Value} (hn : n ≤ ops.size) (htail : tailOk n ops = true)
    (hSL : ∀ W W', S W → Later W W' → S W') (hVL : ∀ j t W W', V j t W → Later W W' → V j t W') (hloc : ∀ j t t' W, j < ops.size → t j = t' j → (∀ k, (mk1 ops j).testBit k = true → t k = t' k) → V j t W → V j t' W)
    (hf0 : ∀ t, At ops (val t) a0 (fun i => i < n) (af t))
    (hv : ∀ t (i : Nat) (o : Oper), ops[i]? = some o → i < n → ∃ b, At ops (val t) a0 (fun j => j < i) b ∧ OpT P ops S eff f V t i o b (val t i))
    (hQ : ∀ t W, S W → (∀ j, j < n → eff j = true → V j t W) → wpList P ops Q (ops.toList.drop n) (af t) W) :
    ∀ (fuel : Nat) (listed : Array Bool) (a : Act) (w : World) (t : Nat → Gh), listed.size = ops.size → leftL listed ≤ fuel → listed.getD n false = false →
      (∀ j, listed.getD j false = true → ∀ o, ops[j]? = some o → ∀ e ∈ o.after, Region.binds .any e = true → listed.getD e.on false = true) →
      At ops (val t) a0 (fun i => listed.getD i false = true) a → S w → (∀ j, j < n → listed.getD j false = true → eff j = true → V j t w) → wpAny P .any ops Q fuel listed a w := by
  -- nothing is ready only when all is listed
  have done : ∀ (listed : Array Bool), listed.size = ops.size → Region.ready .any ops listed = [] → ∀ i, i < ops.size → listed.getD i false = true := by
    intro listed hsz hr i hi
    induction i using Nat.strongRecOn with
    | _ i ih =>
      cases hc : listed.getD i false with
      | true => rfl
      | false =>
        exfalso
        have hmem : i ∈ Region.ready .any ops listed := mem_ready.2 ⟨by
          have : i < listed.size := by omega
          simp [this] at hc ⊢; exact hc, ops[i], by simp [hi], fun e he hb => by
            have hlt := hk.ahead i ops[i] (by simp [hi]) e he hb
            exact ih e.on hlt (by omega)⟩
        rw [hr] at hmem
        cases hmem
  -- all of the front has come up: the tail
  have front : ∀ (fuel : Nat) (listed : Array Bool) (a : Act) (w : World) (t : Nat → Gh), listed.size = ops.size → ops.size - n ≤ fuel → (∀ j, listed.getD j false = true ↔ j < n) →
      At ops (val t) a0 (fun i => listed.getD i false = true) a → S w → (∀ j, j < n → listed.getD j false = true → eff j = true → V j t w) → wpAny P .any ops Q fuel listed a w := by
    intro fuel listed a w t hsz hf hD hA hS hVt
    obtain rfl : a = af t := hA.eq (hf0 t) fun j _ => hD j
    exact wpAny_tail hk htail fuel n listed _ w (Nat.le_refl _) hn hsz hf hD (hQ t w hS fun j hj he => hVt j hj ((hD j).2 hj) he)
  have left_ge : ∀ (listed : Array Bool), listed.size = ops.size → (∀ j, listed.getD j false = true ↔ j < n) → ops.size - n ≤ leftL listed := by
    intro listed hsz hD
    unfold leftL
    rw [hsz]
    have : ((List.range ops.size).filter fun i => !listed.getD i true) = (List.range ops.size).filter fun i => decide (n ≤ i) := by
      refine List.filter_congr fun i hi => ?_
      have hi' := List.mem_range.1 hi
      have h1 := hD i
      have hlt : i < listed.size := by omega
      simp [hlt] at h1 ⊢
      by_cases hn' : i < n
      · rw [h1.2 hn']; simp; omega
      · have : listed[i] = false := by cases h : listed[i] with | true => exact absurd (h1.1 h) hn' | false => rfl
        rw [this]; simp; omega
    rw [this]
    clear this
    have hrange : ∀ (s : Nat), s - n ≤ ((List.range s).filter fun i => decide (n ≤ i)).length := by
      intro s
      induction s with
      | zero => simp
      | succ s ihs =>
        rw [List.range_succ, List.filter_append, List.length_append]
        by_cases h : n ≤ s
        · simp [h]; omega
        · omega
    exact hrange _
  intro fuel
  induction fuel with
  | zero =>
    intro listed a w t hsz hl hln hcl hA hS hVt
    have hr : Region.ready .any ops listed = [] := by
      refine List.eq_nil_iff_forall_not_mem.2 fun i hi => ?_
      have := leftL_set listed i (mem_ready.1 hi).1
      omega
    have hall := done listed hsz hr
    have hns : n = ops.size := by
      by_cases h : n = ops.size
      · exact h
      · have := hall n (by omega)
        rw [hln] at this; cases this
    refine front 0 listed a w t hsz (by omega) (fun j => ⟨fun h => ?_, fun h => hall j (by omega)⟩) hA hS hVt
    by_cases hj : j < listed.size
    · omega
    · simp [hj] at h
  | succ fuel ih =>
    intro listed a w t hsz hl hln hcl hA hS hVt
    by_cases hfull : ∀ j, j < n → listed.getD j false = true
    · have hD : ∀ j, listed.getD j false = true ↔ j < n := fun j => ⟨fun h => by
        by_cases hj : j < n
        · exact hj
        · exfalso
          by_cases hjs : j < ops.size
          · have ho : ops[j]? = some ops[j] := by simp [hjs]
            have := tailOk_spec hk htail (D := fun j => listed.getD j false = true) hcl (i := j) (by omega) ho (fun e he hb => hcl j h _ ho e he hb) n
            by_cases hjn : j = n
            · subst hjn; rw [hln] at h; cases h
            · have := this (by omega); rw [hln] at this; cases this
          · have hj2 : ¬ j < listed.size := by omega
            simp [hj2] at h, hfull j⟩
      exact front (fuel + 1) listed a w t hsz (by have := left_ge listed hsz hD; omega) hD hA hS hVt
    refine ⟨fun hr => ?_, fun i hi => ?_⟩
    · exfalso
      refine hfull fun j hj => done listed hsz hr j (by omega)
    obtain ⟨hun, o, ho, hall⟩ := mem_ready.1 hi
    have his : i < ops.size := (Array.getElem?_eq_some_iff.1 ho).1
    have hlt : i < listed.size := by omega
    have heq : ∀ j, (listed.setIfInBounds i true).getD j false = true ↔ (listed.getD j false = true ∨ j = i) := fun j => by
      by_cases hji : j = i
      · subst hji; simp [hlt]
      · rw [getD_set_ne false (Ne.symm hji)]; simp [hji]
    have hni : ¬ listed.getD i false = true := by
      intro h
      have h2 : listed.getD i true = false := hun
      simp [hlt] at h h2
      rw [h] at h2; cases h2
    have hin' : i < n := by
      by_cases h : i < n
      · exact h
      · exact absurd (fun j hj => tailOk_spec hk htail (D := fun j => listed.getD j false = true) hcl (i := i) (by omega) ho hall j (by omega)) hfull
    have hin : i ≠ n := by omega
    obtain ⟨b, hb, hop⟩ := hv t i o ho hin'
    obtain ⟨hx, hw⟩ := same_exec hk ho (At.alike hk hb hA ho (fun e he hbd => hk.ahead i o ho e he hbd) hall (fun _ _ _ => rfl))
    have hln' : (listed.setIfInBounds i true).getD n false = false := by rw [getD_set_ne false hin]; exact hln
    have hcl' : ∀ j, (listed.setIfInBounds i true).getD j false = true → ∀ o, ops[j]? = some o → ∀ e ∈ o.after, Region.binds .any e = true → (listed.setIfInBounds i true).getD e.on false = true := by
      intro j hj oj hoj e he hbd
      refine (heq _).2 (.inl ?_)
      rcases (heq j).1 hj with h | h
      · exact hcl j h oj hoj e he hbd
      · subst h; rw [ho] at hoj; cases hoj; exact hall e he hbd
    have hleft : leftL (listed.setIfInBounds i true) ≤ fuel := by
      have := leftL_set listed i (mem_ready.1 hi).1
      omega
    unfold Go.wpOp
    simp only [ho]
    cases he : eff i with
    | false =>
      simp only [OpT, he, Bool.false_eq_true, if_false] at hop
      have hput : At ops (val t) a0 (fun j => (listed.setIfInBounds i true).getD j false = true) (a.put o.dst (val t i)) := by
        have h2 := hA.put hk ho
        exact ⟨h2.size, h2.defers, fun j oj d hj hd hD => h2.did j oj d hj hd ((heq j).1 hD), fun d hn => h2.not d fun j oj hj hd hD => hn j oj hj hd ((heq j).2 hD)⟩
      have hVt' : ∀ j, j < n → (listed.setIfInBounds i true).getD j false = true → eff j = true → V j t w := fun j hj hD hej => by
        rcases (heq j).1 hD with h | h
        · exact hVt j hj h hej
        · subst h; rw [he] at hej; cases hej
      have hgo := ih (listed.setIfInBounds i true) _ w t (by simp [hsz]) hleft hln' hcl' hput hS hVt'
      rcases hop with ⟨w1, r1⟩ | ⟨w1, r1⟩
      · rw [← hw, w1, if_pos rfl]
        refine .inl ?_
        unfold Oper.wp
        rw [← hx, r1 w hS]
        exact hgo
      · rw [← hw, w1, if_neg (by simp)]
        rw [← r1]
        exact hgo
    | true =>
      simp only [OpT, he, if_true] at hop
      obtain ⟨-, w1, r1⟩ := hop
      rw [← hw, w1, if_pos rfl]
      refine .inl ?_
      unfold Oper.wp
      rw [← hx]
      have hr := r1 w hS fun j hej ⟨e, hee, hbd, hon⟩ => by
        subst hon
        exact hVt e.on (by have := hk.ahead i o ho e hee hbd; omega) (hall e hee hbd) hej
      -- behind it: the ghost of i is what has come of it
      have key : ∀ (s : Gh) (W' : World), V i (upd t i s) W' → Later w W' → wpAny P .any ops Q fuel (listed.setIfInBounds i true) (a.put o.dst (f i s)) W' := by
        intro s W' hVs hL
        have hag := vals_agree (P := P) (S := S) (eff := eff) (f := f) (V := V) hk (val := val) hS hv (D := fun j => listed.getD j false = true) hcl hni (t := t) (t' := upd t i s) (fun j hj => by simp [upd, hj])
        have hvi : val (upd t i s) i = f i s := by
          obtain ⟨b', _, h'⟩ := hv (upd t i s) i o ho hin'
          simp only [OpT, he, if_true] at h'
          rw [h'.1]; simp [upd]
        have hA' : At ops (val (upd t i s)) a0 (fun j => listed.getD j false = true) a := ⟨hA.size, hA.defers, fun j oj d hj hd hD => by
          have hjs : j < ops.size := (Array.getElem?_eq_some_iff.1 hj).1
          have hjn : j < n := by
            by_cases hj2 : j < n
            · exact hj2
            · exfalso
              by_cases hjn : j = n
              · subst hjn; rw [hln] at hD; cases hD
              · have h3 := tailOk_spec hk htail (D := fun j => listed.getD j false = true) hcl (i := j) (by omega) hj (fun e he hb => hcl j hD _ hj e he hb) n (by omega)
                rw [hln] at h3; cases h3
          rw [← hag j hjn hD hjs]; exact hA.did j oj d hj hd hD, hA.not⟩
        have h2 := hA'.put hk ho
        rw [hvi] at h2
        refine ih (listed.setIfInBounds i true) _ W' (upd t i s) (by simp [hsz]) hleft hln' hcl' ⟨h2.size, h2.defers, fun j oj d hj hd hD => h2.did j oj d hj hd ((heq j).1 hD), fun d hn => h2.not d fun j oj hj hd hD => hn j oj hj hd ((heq j).2 hD)⟩ (hSL _ _ hS hL) fun j hj hD hej => ?_
        by_cases hji : j = i
        · subst hji; exact hVs
        · rcases (heq j).1 hD with h | h
          · have hjs : j < ops.size := by omega
            refine hloc j t (upd t i s) W' hjs (by simp [upd, hji]) (fun k hk2 => ?_) (hVL _ _ _ _ (hVt j hj h hej) hL)
            have hkD := anc_closed hk (D := fun j => listed.getD j false = true) hcl j ops[j] (by simp [hjs]) (fun e he hb => hcl j h _ (by simp [hjs]) e he hb) k hk2
            have hki : k ≠ i := fun e => hni (e ▸ hkD)
            simp [upd, hki]
          · exact absurd h hji
      generalize (execOp b.eval o).run P w = r at *
      cases r with
      | ok nx w' =>
        cases nx <;> simp only [RunE] at hr <;> simp only [Oper.upon]
        case value u => obtain ⟨s, rfl, h2, h3⟩ := hr; exact key s w' h2 h3
        case enter g args =>
          refine hr.mono fun e w'' h => ?_
          obtain ⟨s, rfl, h2, h3⟩ := h
          exact key s w'' h2 h3
      | halt x w' => exact hr.elim

/-- whose ghosts V j speaks of, beside its own: j waits for them -/
def useOk (ops : Array Oper) (use : Nat → List Nat) : Bool := (List.range ops.size).all fun j => (use j).all fun k => (mk1 ops j).testBit k
/-- **THE REGION**: walk the first n once, in the text's order, for every ghost; the others come in the text's order. -/
theorem region_ghost {id : Nat} {l : List Oper} {a : Act} {w : World} (n : Nat) (f : Nat → Gh → Value) (V : Nat → (Nat → Gh) → World → Prop) (eff : Nat → Bool) (use : Nat → List Nat) {af : (Nat → Gh) → Act} (hm : P.follows .mixedOrders = true) (hk : okL l.toArray = true) (huse : useOk l.toArray use = true) (hn : n ≤ l.length) (htail : tailOk n l.toArray = true)
    (hd : ∀ w, S w → S w.drew) (hw : S w) (hSL : ∀ W W', S W → Later W W' → S W') (hVL : ∀ j t W W', V j t W → Later W W' → V j t W')
    (hloc : ∀ j t t' W, t j = t' j → (∀ k, k ∈ use j → t k = t' k) → V j t W → V j t' W) (h : ∀ t, SeqT P l.toArray S eff f V t 0 (l.take n) a (af t))
    (hQ : ∀ t W, S W → (∀ j, j < n → eff j = true → V j t W) → wpList P l.toArray Q (l.drop n) (af t) W) : (Code.region id l.toArray true).wp P Q a w := by
  have hk := okL_spec hk
  have hloc' : ∀ j t t' W, j < l.toArray.size → t j = t' j → (∀ k, (mk1 l.toArray j).testBit k = true → t k = t' k) → V j t W → V j t' W := fun j t t' W hj h1 h2 hV =>
    hloc j t t' W h1 (fun k hku => h2 k (List.all_eq_true.1 (List.all_eq_true.1 huse j (List.mem_range.2 hj)) k hku)) hV
  have hln : (l.take n).length = n := by rw [List.length_take]; omega
  have hex := fun t => SeqT.vals hk (l.take n) 0 a (af t) (fun j hj => by rw [hln] at hj; simp [List.getElem?_take, hj]) (h t) (fun _ => undef) a ⟨rfl, rfl, fun _ _ _ _ _ h => by omega, fun _ _ => rfl⟩
  obtain ⟨val, hval⟩ := Classical.axiomOfChoice hex
  refine wp_region_any hm ?_
  have hrep : ∀ j, ¬ (Array.replicate l.toArray.size false).getD j false = true := fun j hj => by
    by_cases h : j < l.toArray.size
    · simp at h; simp [h] at hj
    · simp at h; simp [h] at hj
  refine wpAny_of_T hk (n := n) (val := val) (a0 := a) (af := af) (by simpa using hn) htail hSL hVL hloc' (fun t => by have := (hval t).2.1; rw [hln] at this; simpa using this) (fun t i o hi hlt => (hval t).2.2 i o hi (Nat.zero_le _) (by rw [hln]; omega)) (fun t W hS hV => by simpa using hQ t W hS hV) _ _ a _ (fun _ => default) (by simp) ?_ ?_ ?_ ?_ (hd w hw) ?_
  · unfold leftL
    refine Nat.le_trans (List.length_filter_le _ _) (by simp)
  · have := hrep n; simpa using this
  · exact fun j hj => absurd hj (hrep j)
  · exact ⟨rfl, rfl, fun i o d hi hd' hD => absurd hD (hrep i), fun _ _ => rfl⟩
  · exact fun j hj hD => absurd hD (hrep j)
theorem wpList_is {l l' : List Oper} {a : Act} {w : World} (h : l = l') (k : wpList P ops Q l' a w) : wpList P ops Q l a w := h ▸ k
end
end Go.Proofs.Ytdheckfndldbmaa

namespace Go.Proofs.Ytdheckfndldbmaa
open Go.RowKit
attribute [local go_sem] merge_t merge_f merge_a merge_o

/-- a result that lies in one variable -/
theorem results_cell1 {fn : Func} {p : Tmp} {ty : TypeId} (h : fn.results = #[.cell p ty]) (tmps : Array Value) (P : Program) (w : World) :
    (results fn tmps).run P w = ((asAddr (tmps.getD p undef)).run P w).andThen fun a w₁ => (loadVar ty a).run P w₁ := by
  simp only [results, h]
  simp [Sem.run_bind, Result.andThen]

set_option maxHeartbeats 400000 in
theorem watch_c (kd gr s g : Int) (w : World) : Calls Try.prog 17 #[.int .i64 kd, .int .i64 gr, .agg #[.int .i64 s, .int .u64 g]] w fun r w' => r = .returned (.agg #[.int .i64 kd, .int .i64 gr, .int .i64 s, .int .u64 g]) ∧ Later w w' := by
  go_enter Try.func17, Try.ntmps17
  go_wp2
  refine bodyPost_ret (v := .agg #[.int .i64 kd, .int .i64 gr, .int .i64 s, .int .u64 g]) (by rw [results_cell1 rfl]; go_simp) rfl ?_
  exact ⟨rfl, by go_simp⟩

/-- what is known of a block that was made some worlds ago -/
theorem alloc_facts {x W1 : World} {cs : Array Value} {t : TypeId} (h : Later (x.alloc (.cells cs t)) W1) :
    (∀ i v, cs[i]? = some v → ∀ W, Later W1 W → W.cell? ⟨x.heap.size, i, none⟩ = some v) ∧ (∀ i W, Later W1 W → W.frozen? ⟨x.heap.size, i, none⟩ = false) := by
  refine ⟨fun i v hv W hW => (h.trans hW).of_cell (by simpa using hv), fun i W hW => ?_⟩
  rw [(h.trans hW).frozen (by simp)]
  simp

/-- the first of a monitor: what the laws go through -/
def cutM (m : MonD) : MonD := ⟨m.slabs.take 130, m.pinned.take 9, (m.has.take 9).map (·.take 20), m.bad.take 18⟩

theorem Later.heap {w W : World} (h : Later w W) {i : Nat} {o : Obj} (ho : w.heap[i]? = some o) : W.heap[i]? = some o := by
  have hi : i < w.heap.size := (Array.getElem?_eq_some_iff.1 ho).1
  rw [h.block i hi]; exact ho

theorem heap_cell {W : World} {g : Nat} {cs : Array Value} {t : TypeId} (h : W.heap[g]? = some (.cells cs t (0, 0))) {i : Nat} {v : Value} (hv : cs[i]? = some v) : W.cell? ⟨g, i, none⟩ = some v := by
  simp [World.cell?, h, hv]
theorem heap_frozen {W : World} {g : Nat} {cs : Array Value} {t : TypeId} (h : W.heap[g]? = some (.cells cs t (0, 0))) (i : Nat) : W.frozen? ⟨g, i, none⟩ = false := by
  simp [World.frozen?, h]
/-- a block of four cells is written over -/
theorem store4 {W : World} {g : Nat} {t : TypeId} {z0 z1 z2 z3 : Value} (h : W.heap[g]? = some (.cells #[z0, z1, z2, z3] t (0, 0))) (v0 v1 v2 v3 : Value) :
    ∃ wz, Hid ((((W.setCell ⟨g, 0, none⟩ v0).setCell ⟨g, 1, none⟩ v1).setCell ⟨g, 2, none⟩ v2).setCell ⟨g, 3, none⟩ v3 = wz) ∧ wz.heap[g]? = some (.cells #[v0, v1, v2, v3] t (0, 0)) ∧ (∀ i, i ≠ g → wz.heap[i]? = W.heap[i]?) ∧
      (∀ B, Later B W → B.heap.size ≤ g → Later B wz) ∧ (∀ (x : Value) (b : Nat) (e : TypeId) (sz n : Nat) (xs : List Value), x.ownBlock ≠ some g → W.ownsRow b e sz x n xs → wz.ownsRow b e sz x n xs) := by
  refine ⟨_, rfl, ?_, fun i hi => ?_, fun B hB hg => (((hB.set hg _).set hg _).set hg _).set hg _, fun x b e sz n xs hx ho => ?_⟩
  · have h1 := heap_setCell_same W g 0 _ t v0 h
    have h2 := heap_setCell_same _ g 1 _ t v1 h1
    have h3 := heap_setCell_same _ g 2 _ t v2 h2
    have h4 := heap_setCell_same _ g 3 _ t v3 h3
    simpa using h4
  · rw [heap_setCell_other _ _ _ _ (by simpa using hi), heap_setCell_other _ _ _ _ (by simpa using hi), heap_setCell_other _ _ _ _ (by simpa using hi), heap_setCell_other _ _ _ _ (by simpa using hi)]
  · exact ownsRow_setCell_other (ownsRow_setCell_other (ownsRow_setCell_other (ownsRow_setCell_other ho hx _) hx _) hx _) hx _
/-- rows of another type lie elsewhere -/
theorem own_ne {W : World} {b g : Nat} {e t : TypeId} {sz n : Nat} {x : Value} {xs : List Value} {cs : Array Value} (ho : W.ownsRow b e sz x n xs) (hg : W.heap[g]? = some (.cells cs t (0, 0))) (hne : e ≠ t) : x.ownBlock ≠ some g := by
  intro hx
  rcases ho.2 with ⟨rfl, rfl⟩ | ⟨k, cap, cur, rfl, hb, hh, h1, h2, h3, h4⟩
  · simp [Value.ownBlock] at hx
  · simp [Value.ownBlock] at hx
    subst hx
    rw [hh] at hg
    simp at hg
    exact hne hg.2

theorem own_apart {W : World} {b b' : Nat} {e e' : TypeId} {sz sz' n n' : Nat} {x x' : Value} {xs xs' : List Value} (h : W.ownsRow b e sz x n xs) (h' : W.ownsRow b' e' sz' x' n' xs') (hne : e ≠ e') : ∀ k, x.ownBlock = some k → x'.ownBlock ≠ some k := by
  intro k hk
  rcases h.2 with ⟨rfl, rfl⟩ | ⟨g, cap, cur, rfl, hb, hh, h1, h2, h3, h4⟩
  · simp [Value.ownBlock] at hk
  · simp [Value.ownBlock] at hk
    subst hk
    exact own_ne h' hh (Ne.symm hne)
theorem infoR : (Try.prog.info? 54).map (fun i => (i.zero, i.size, i.bytes)) = some (some (.slice none 0 0), 1, 24) := by kernel_rfl
/-- the loop of own: k rows are taken over -/
def OwnSt (m : MonD) (wb : World) (g q0 q1 q3 : Nat) (s9 s18 s26 : Gh) (k : Nat) (W : World) : Prop :=
  Later wb W ∧ ∃ hv vals, W.heap[g]? = some (.cells #[.slice s9.A q0 s9.c, .slice s18.A q1 s18.c, hv, .slice s26.A q3 s26.c] 32 (0, 0)) ∧ W.ownsRow wb.heap.size 54 1 hv k vals ∧ vals.length = k ∧
    (∀ j, j < k → ∃ A n c, vals[j]? = some (.slice A n c) ∧ W.ownsRow 0 43 2 (.slice A n c) n (flat encE ((m.has[j]?.getD []).take 20)) ∧ ((m.has[j]?.getD []).take 20).length = n) ∧
    W.ownsRow 0 47 2 (.slice s9.A q0 s9.c) q0 (flat encE (m.slabs.take q0)) ∧ W.ownsRow 0 4 1 (.slice s18.A q1 s18.c) q1 (flat encB (m.pinned.take q1)) ∧ W.ownsRow 0 45 4 (.slice s26.A q3 s26.c) q3 (flat encW (m.bad.take q3))
theorem own_slice {w : World} {b : Nat} {e : TypeId} {sz : Nat} {v : Value} {n : Nat} {xs : List Value} (h : w.ownsRow b e sz v n xs) : ∃ A c, v = .slice A n c ∧ n ≤ c ∧ c ≤ maxLen := by
  rcases h.2 with ⟨rfl, rfl⟩ | ⟨g, cap, cur, rfl, hb, hh, h1, h2, h3, h4⟩
  · exact ⟨none, 0, rfl, Nat.le_refl _, Nat.zero_le _⟩
  · exact ⟨_, cap, rfl, h1, h2⟩
theorem own_grown {W w1 : World} {b b' : Nat} {e e' : TypeId} {sz sz' n n' : Nat} {x x' : Value} {xs xs' : List Value} (h : W.ownsRow b e sz x n xs) (h' : W.ownsRow b' e' sz' x' n' xs') (hne : e ≠ e') (hg : W.grownBy w1 x'.ownBlock) : w1.ownsRow b e sz x n xs := by
  refine h.kept hg ?_
  cases hx : x.ownBlock with
  | none => exact .inl rfl
  | some k => exact .inr fun e => own_apart h h' hne k hx e.symm
theorem block_grown {W w1 : World} {b g : Nat} {e t : TypeId} {sz n : Nat} {x : Value} {xs : List Value} {cs : Array Value} (h : W.heap[g]? = some (.cells cs t (0, 0))) (h' : W.ownsRow b e sz x n xs) (hne : e ≠ t) (hg : W.grownBy w1 x.ownBlock) : w1.heap[g]? = some (.cells cs t (0, 0)) := by
  rw [hg.block g (Array.getElem?_eq_some_iff.1 h).1 (fun e => own_ne h' h hne e.symm)]; exact h
theorem ownSt_next {m : MonD} {wb wr W w1 : World} {g q0 q1 q3 k n c : Nat} {s9 s18 s26 : Gh} {hv v1 : Value} {vals : List Value} {D : Option Addr} (hLr : Later wb wr) (hgB : wb.heap.size ≤ g)
    (hob : wr.heap[g]? = some (.cells #[.slice s9.A q0 s9.c, .slice s18.A q1 s18.c, hv, .slice s26.A q3 s26.c] 32 (0, 0))) (HO : wr.ownsRow wb.heap.size 54 1 hv k vals) (hvl : vals.length = k)
    (Hrows : ∀ j, j < k → ∃ A n c, vals[j]? = some (.slice A n c) ∧ wr.ownsRow 0 43 2 (.slice A n c) n (flat encE ((m.has[j]?.getD []).take 20)) ∧ ((m.has[j]?.getD []).take 20).length = n)
    (Ho : wr.ownsRow 0 47 2 (.slice s9.A q0 s9.c) q0 (flat encE (m.slabs.take q0)) ∧ wr.ownsRow 0 4 1 (.slice s18.A q1 s18.c) q1 (flat encB (m.pinned.take q1)) ∧ wr.ownsRow 0 45 4 (.slice s26.A q3 s26.c) q3 (flat encW (m.bad.take q3)))
    (hW : Later wr W) (h7 : W.ownsRow 0 43 2 (.slice D n c) n (flat encE ((m.has[k]?.getD []).take 20))) (hn : ((m.has[k]?.getD []).take 20).length = n)
    (ho1 : w1.ownsRow wb.heap.size 54 1 v1 (k + 1) (vals ++ [.slice D n c])) (hg1 : W.grownBy w1 hv.ownBlock) :
    OwnSt m wb g q0 q1 q3 s9 s18 s26 (k + 1) (w1.setCell ⟨g, 2, none⟩ v1) := by
  have HOW := hW.own HO
  have hobW := hW.heap hob
  have hob1 := block_grown hobW HOW (by decide) hg1
  have hL1 : Later wb w1 := later_grown (hLr.trans hW) hg1 (fun b hb => own_block_le HOW b hb)
  have keep : ∀ {e : TypeId} {sz n : Nat} {x : Value} {xs : List Value}, e ≠ 54 → e ≠ 32 → W.ownsRow 0 e sz x n xs → (w1.setCell ⟨g, 2, none⟩ v1).ownsRow 0 e sz x n xs := fun h1 h2 h =>
    have h3 := own_grown h HOW h1 hg1
    ownsRow_setCell_other h3 (own_ne h3 hob1 h2) _
  refine ⟨hL1.set hgB _, v1, vals ++ [.slice D n c], ?_, ownsRow_setCell_other ho1 (own_ne ho1 hob1 (by decide)) _, by simp [hvl], fun j hj => ?_, keep (by decide) (by decide) (hW.own Ho.1), keep (by decide) (by decide) (hW.own Ho.2.1), keep (by decide) (by decide) (hW.own Ho.2.2)⟩
  · have := heap_setCell_same w1 g 2 _ _ v1 hob1
    simpa using this
  · by_cases hjk : j < k
    · obtain ⟨A, n', c', h1, h2, h3⟩ := Hrows j hjk
      exact ⟨A, n', c', by rw [List.getElem?_append_left (by omega)]; exact h1, keep (by decide) (by decide) (hW.own h2), h3⟩
    · obtain rfl : j = k := by omega
      exact ⟨D, n, c, by rw [List.getElem?_append_right (by omega), hvl]; simp, keep (by decide) (by decide) h7, hn⟩
theorem ownSt_end {m : MonD} {wy : World} {b q0 q1 q2 q3 c : Nat} {s9 s18 s26 : Gh} {vals : List Value} {E : Option Addr}
    (h9 : wy.ownsRow 0 47 2 (.slice s9.A q0 s9.c) q0 (flat encE (m.slabs.take q0))) (h18 : wy.ownsRow 0 4 1 (.slice s18.A q1 s18.c) q1 (flat encB (m.pinned.take q1))) (h26 : wy.ownsRow 0 45 4 (.slice s26.A q3 s26.c) q3 (flat encW (m.bad.take q3)))
    (hh : wy.ownsRow b 54 1 (.slice E q2 c) q2 vals) (hvl : vals.length = q2)
    (hrows : ∀ j, j < q2 → ∃ A n c, vals[j]? = some (.slice A n c) ∧ wy.ownsRow 0 43 2 (.slice A n c) n (flat encE ((m.has[j]?.getD []).take 20)) ∧ ((m.has[j]?.getD []).take 20).length = n)
    (e0 : q0 = min m.slabs.length 130) (e1 : q1 = min m.pinned.length 9) (e2 : q2 = min m.has.length 9) (e3 : q3 = min m.bad.length 18) :
    RMon 130 wy (.agg #[.slice s9.A q0 s9.c, .slice s18.A q1 s18.c, .slice E q2 c, .slice s26.A q3 s26.c]) (cutM m) := by
  have tk : ∀ {α : Type} (l : List α) (q n : Nat), q = min l.length n → l.take q = l.take n ∧ (l.take q).length = q := by
    intro α l q n h
    refine ⟨?_, by rw [List.length_take]; omega⟩
    rcases Nat.le_total l.length n with h' | h'
    · rw [h, Nat.min_eq_left h', List.take_of_length_le (Nat.le_refl _), List.take_of_length_le h']
    · rw [h, Nat.min_eq_right h']
  obtain ⟨t0, l0⟩ := tk m.slabs q0 130 (by omega)
  obtain ⟨t1, l1⟩ := tk m.pinned q1 9 (by omega)
  obtain ⟨t2, l2⟩ := tk m.has q2 9 (by omega)
  obtain ⟨t3, l3⟩ := tk m.bad q3 18 (by omega)
  obtain ⟨_, _, a1, a2, a3, a4⟩ := rd_of_own enc_E l0 h9
  cases a1
  obtain ⟨_, _, b1, b2, b3, b4⟩ := rd_of_own enc_B l1 h18
  cases b1
  obtain ⟨_, _, d1, d2, d3, d4⟩ := rd_of_own enc_W l3 h26
  cases d1
  obtain ⟨_, _, f1, f2, f3⟩ := own_slice hh
  cases f1
  rw [t0] at a4; rw [t1] at b4; rw [t3] at d4
  refine ⟨s9.A, q0, s9.c, s18.A, q1, s18.c, E, q2, c, s26.A, q3, s26.c, rfl, a4, b4, ⟨by simp [cutM]; omega, fun hp => ?_⟩, d4, ⟨by omega, by omega, by omega, by omega, fun l hl => ?_⟩, by simp only [maxLen] at *; omega⟩
  · rcases hh.2 with ⟨hn, _⟩ | ⟨g, cap, cur, hs, hb, hhg, r1, r2, r3, r4⟩
    · cases hn; omega
    · cases hs
      refine ⟨g, 0, rfl, fun j r hr => ?_⟩
      simp only [cutM, List.getElem?_map, Option.map_eq_some_iff] at hr
      obtain ⟨x, hx, rfl⟩ := hr
      have hj9 : j < 9 := by
        have := (List.getElem?_eq_some_iff.1 hx).1
        rw [List.length_take] at this; omega
      rw [List.getElem?_take_of_lt hj9] at hx
      have hjl : j < m.has.length := (List.getElem?_eq_some_iff.1 hx).1
      obtain ⟨A, n, c, g1, g2, g3⟩ := hrows j (by omega)
      rw [hx, Option.getD_some] at g2 g3
      obtain ⟨_, _, i1, i2, i3, i4⟩ := rd_of_own enc_E g3 g2
      cases i1
      refine ⟨A, n, c, ?_, i2, i3, i4⟩
      have := hh.cells (g := g) rfl j _ g1
      rwa [add_at] at this
  · simp only [cutM, List.mem_map] at hl
    obtain ⟨x, hx, rfl⟩ := hl
    rw [List.length_take]; omega
def rowF (nr : Nat) : Nat → Gh → Value
  | 7, s => .slice s.A nr s.c
  | _, s => .slice (some ⟨s.n, 0, none⟩) 1 1
def rowE (i : Nat) : Bool := i == 7 || i == 8
def rowU (i : Nat) : List Nat := if i == 8 then [7] else []
def rowV (b nr : Nat) (xs : List E2) : Nat → (Nat → Gh) → World → Prop
  | 7, t, W => W.ownsRow 0 43 2 (.slice (t 7).A nr (t 7).c) nr (flat encE xs)
  | 8, t, W => b ≤ (t 8).n ∧ W.heap[(t 8).n]? = some (.cells #[.slice (t 7).A nr (t 7).c] 54 (0, 0))
  | _, _, _ => True
theorem rowVL (b nr : Nat) (xs : List E2) : ∀ j t W W', rowV b nr xs j t W → Later W W' → rowV b nr xs j t W' := by
  intro j s W W' h hL
  unfold rowV at *
  split at h
  · exact hL.own h
  · exact ⟨h.1, hL.heap h.2⟩
  · trivial
theorem rowLoc (b nr : Nat) (xs : List E2) : ∀ j (t t' : Nat → Gh) W, t j = t' j → (∀ k, k ∈ rowU j → t k = t' k) → rowV b nr xs j t W → rowV b nr xs j t' W := by
  intro j t t' W h hu hV
  unfold rowV at *
  split at hV
  · rw [← h]; exact hV
  · rw [← h, ← hu 7 (by simp [rowU])]; exact hV
  · trivial

def ownF (q0 q1 q3 : Nat) : Nat → Gh → Value
  | 9, s => .slice s.A q0 s.c
  | 18, s => .slice s.A q1 s.c
  | 26, s => .slice s.A q3 s.c
  | _, s => .pointer (some ⟨s.n, 0, none⟩)
def ownE (i : Nat) : Bool := i == 9 || i == 18 || i == 26 || i == 28
def ownV (b : Nat) (m : MonD) (q0 q1 q3 : Nat) : Nat → (Nat → Gh) → World → Prop
  | 9, t, W => W.ownsRow 0 47 2 (.slice (t 9).A q0 (t 9).c) q0 (flat encE (m.slabs.take q0))
  | 18, t, W => W.ownsRow 0 4 1 (.slice (t 18).A q1 (t 18).c) q1 (flat encB (m.pinned.take q1))
  | 26, t, W => W.ownsRow 0 45 4 (.slice (t 26).A q3 (t 26).c) q3 (flat encW (m.bad.take q3))
  | 28, t, W => b ≤ (t 28).n ∧ W.heap[(t 28).n]? = some (.cells #[.slice none 0 0, .slice none 0 0, .slice none 0 0, .slice none 0 0] 32 (0, 0))
  | _, _, _ => True
theorem ownVL (b : Nat) (m : MonD) (q0 q1 q3 : Nat) : ∀ j t W W', ownV b m q0 q1 q3 j t W → Later W W' → ownV b m q0 q1 q3 j t W' := by
  intro j s W W' h hL
  unfold ownV at *
  split at h
  · exact hL.own h
  · exact hL.own h
  · exact hL.own h
  · exact ⟨h.1, hL.heap h.2⟩
  · trivial
theorem ownLoc (b : Nat) (m : MonD) (q0 q1 q3 : Nat) : ∀ j (t t' : Nat → Gh) W, t j = t' j → (∀ k, k ∈ ([] : List Nat) → t k = t' k) → ownV b m q0 q1 q3 j t W → ownV b m q0 q1 q3 j t' W := by
  intro j t t' W h _ hV
  unfold ownV at *
  split at hV <;> simp_all

set_option maxRecDepth 100000 in
set_option maxHeartbeats 4000000 in
theorem lown_c (B : Nat) (v : Value) (m : MonD) (w : World) (hB : B ≤ 1000000) (hM : RMon B w v m) :
    Calls Try.prog 21 #[v] w fun r w' => ∃ v', r = .returned v' ∧ Later w w' ∧ RMon 130 w' v' (cutM m) := by
  obtain ⟨A0, n0, c0, A1, n1, c1, A2, n2, c2, A3, n3, c3, rfl, hR0, hR1, hR2, hR3, hb, hc⟩ := hM
  obtain ⟨wb, hwb, hL, hz, f1, f2⟩ := box2 w #[.slice A0 n0 c0, .slice A1 n1 c1, .slice A2 n2 c2, .slice A3 n3 c3] 32 #[.slice none 0 0, .slice none 0 0, .slice none 0 0, .slice none 0 0] 32
  have a0 := f1 0 (.slice A0 n0 c0) rfl
  have a1 := f1 1 (.slice A1 n1 c1) rfl
  have a2 := f1 2 (.slice A2 n2 c2) rfl
  have a3 := f1 3 (.slice A3 n3 c3) rfl
  clear f1
  obtain ⟨q0, hq0⟩ : ∃ q, q = min n0 130 := ⟨_, rfl⟩
  obtain ⟨q1, hq1⟩ : ∃ q, q = min n1 9 := ⟨_, rfl⟩
  obtain ⟨q2, hq2⟩ : ∃ q, q = min n2 9 := ⟨_, rfl⟩
  obtain ⟨q3, hq3⟩ : ∃ q, q = min n3 18 := ⟨_, rfl⟩
  have z0 : (if (130 : Int) < (n0 : Int) then (130 : Int) else (n0 : Int)) = (q0 : Int) := by split <;> omega
  have z1 : (if (9 : Int) < (n1 : Int) then (9 : Int) else (n1 : Int)) = (q1 : Int) := by split <;> omega
  have z2 : (if (9 : Int) < (n2 : Int) then (9 : Int) else (n2 : Int)) = (q2 : Int) := by split <;> omega
  have z3 : (if (18 : Int) < (n3 : Int) then (18 : Int) else (n3 : Int)) = (q3 : Int) := by split <;> omega
  have l0 : q0 ≤ c0 := by omega
  have l1 : q1 ≤ c1 := by omega
  have l2 : q2 ≤ c2 := by omega
  have l3 : q3 ≤ c3 := by omega
  have cS : Hid (∀ W, Later wb W → Calls Try.prog 46 #[.slice A0 q0 c0] W fun r w' => ∃ D d, r = .returned (.slice D q0 d) ∧ Later W w' ∧ w'.ownsRow 0 47 2 (.slice D q0 d) q0 (flat encE (m.slabs.take q0))) :=
    fun W hW => (cloneS_c A0 q0 c0 _ W (by omega) ((hR0.later (hL.trans hW)).take q0 (by omega))).mono fun r w' ⟨v, e, l, o⟩ => by
      obtain ⟨D, d, rfl, h1, h2, h3⟩ := rd_of_own enc_E (by rw [List.length_take, hR0.1]; omega) o
      exact ⟨D, d, e, l, own_base o (Nat.zero_le _)⟩
  have cB : Hid (∀ W, Later wb W → Calls Try.prog 47 #[.slice A1 q1 c1] W fun r w' => ∃ D d, r = .returned (.slice D q1 d) ∧ Later W w' ∧ w'.ownsRow 0 4 1 (.slice D q1 d) q1 (flat encB (m.pinned.take q1))) :=
    fun W hW => (cloneB_c A1 q1 c1 _ W (by omega) ((hR1.later (hL.trans hW)).take q1 (by omega))).mono fun r w' ⟨v, e, l, o⟩ => by
      obtain ⟨D, d, rfl, h1, h2, h3⟩ := rd_of_own enc_B (by rw [List.length_take, hR1.1]; omega) o
      exact ⟨D, d, e, l, own_base o (Nat.zero_le _)⟩
  have cW : Hid (∀ W, Later wb W → Calls Try.prog 48 #[.slice A3 q3 c3] W fun r w' => ∃ D d, r = .returned (.slice D q3 d) ∧ Later W w' ∧ w'.ownsRow 0 45 4 (.slice D q3 d) q3 (flat encW (m.bad.take q3))) :=
    fun W hW => (cloneW_c A3 q3 c3 _ W (by omega) ((hR3.later (hL.trans hW)).take q3 (by omega))).mono fun r w' ⟨v, e, l, o⟩ => by
      obtain ⟨D, d, rfl, h1, h2, h3⟩ := rd_of_own enc_W (by rw [List.length_take, hR3.1]; omega) o
      exact ⟨D, d, e, l, own_base o (Nat.zero_le _)⟩
  have hn : n0 ≤ 1000000 ∧ n1 ≤ 1000000 ∧ n2 ≤ 1000000 ∧ n3 ≤ 1000000 := by omega
  obtain ⟨hn0, hn1, hn2, hn3⟩ := hn
  have HR2 : Hid (RdR wb A2 q2 (m.has.take q2)) := (hR2.later hL).take q2 (by omega)
  have Hb : Hid (∀ l ∈ m.has, l.length ≤ B) := hb.2.2.2.2
  have HQ : Hid (q0 = min m.slabs.length 130 ∧ q1 = min m.pinned.length 9 ∧ q2 = min m.has.length 9 ∧ q3 = min m.bad.length 18) := ⟨by rw [hR0.1]; exact hq0, by rw [hR1.1]; exact hq1, by rw [hR2.1]; exact hq2, by rw [hR3.1]; exact hq3⟩
  have Hres : Hid (wb.heap[w.heap.size + 1]? = some (.cells #[.slice none 0 0, .slice none 0 0, .slice none 0 0, .slice none 0 0] 32 (0, 0))) := by
    show _ = _
    rw [← hwb.out]; exact heap_alloc2_new _ _ _
  clear hR0 hR1 hR2 hR3 hb hc hq0 hq1 hq2 hq3
  go_enter Try.func21, Try.ntmps21
  go_wp2_with fail
  rw [hwb.out]
  refine region_ghost (S := Later wb) (af := ?_) 29 (ownF q0 q1 q3) (ownV wb.heap.size m q0 q1 q3) ownE (fun _ => []) (by kernel_rfl) (by kernel_rfl) (by kernel_rfl) (by decide) (by kernel_rfl) (fun _ h => h.drew) (Later.refl _) (fun _ _ h h2 => h.trans h2) (ownVL _ _ _ _ _) (ownLoc _ _ _ _ _) ?_ ?_
  rotate_left
  · intro t
    repeat (first
      | (refine SeqT.val (v := ?_) (by rfl) (by rfl) (fun W hW => ?_) ?_; rotate_left; (· (go_simp; try with_reducible rfl)); try simp only [Act.put, List.setIfInBounds_toArray, List.set_cons_zero, List.set_cons_succ])
      | (refine SeqT.skip (by rfl) (by rfl) ?_; try simp only [Act.put, List.setIfInBounds_toArray, List.set_cons_zero, List.set_cons_succ])
      | (refine SeqT.call (g := ?_) (args := ?_) (.slice (t 9).A q0 (t 9).c) (by rfl) (by rfl) (by rfl) (fun W hW => ?_) (fun W hW hd => ?_) ?_; rotate_left 2; (· (go_simp; first | with_reducible rfl | (refine ⟨?_, ?_⟩ <;> with_reducible rfl))); (· (exact (cS.out W hW).mono fun e W2 ⟨D, d, e1, h1, h2⟩ => ⟨⟨D, 0, d, undef⟩, e1, h2, h1⟩)); try simp only [Act.put, List.setIfInBounds_toArray, List.set_cons_zero, List.set_cons_succ])
      | (refine SeqT.call (g := ?_) (args := ?_) (.slice (t 18).A q1 (t 18).c) (by rfl) (by rfl) (by rfl) (fun W hW => ?_) (fun W hW hd => ?_) ?_; rotate_left 2; (· (go_simp; first | with_reducible rfl | (refine ⟨?_, ?_⟩ <;> with_reducible rfl))); (· (exact (cB.out W hW).mono fun e W2 ⟨D, d, e1, h1, h2⟩ => ⟨⟨D, 0, d, undef⟩, e1, h2, h1⟩)); try simp only [Act.put, List.setIfInBounds_toArray, List.set_cons_zero, List.set_cons_succ])
      | (refine SeqT.call (g := ?_) (args := ?_) (.slice (t 26).A q3 (t 26).c) (by rfl) (by rfl) (by rfl) (fun W hW => ?_) (fun W hW hd => ?_) ?_; rotate_left 2; (· (go_simp; first | with_reducible rfl | (refine ⟨?_, ?_⟩ <;> with_reducible rfl))); (· (exact (cW.out W hW).mono fun e W2 ⟨D, d, e1, h1, h2⟩ => ⟨⟨D, 0, d, undef⟩, e1, h2, h1⟩)); try simp only [Act.put, List.setIfInBounds_toArray, List.set_cons_zero, List.set_cons_succ])
      | (refine SeqT.make (.pointer (some ⟨(t 28).n, 0, none⟩)) (by rfl) (by rfl) (by rfl) (fun W hW hd => ?_) ?_; (· (exact ⟨⟨none, W.heap.size, 0, undef⟩, _, by go_simp; rfl, ⟨hW.sz, heap_alloc_new _ _⟩, (Later.refl W).alloc _⟩)); try simp only [Act.put, List.setIfInBounds_toArray, List.set_cons_zero, List.set_cons_succ])
      )
    exact SeqT.nil _
  intro t W hW hV
  refine wpList_is (l' := [_]) rfl ?_
  have h9 := hV 9 (by decide) rfl
  have h18 := hV 18 (by decide) rfl
  have h26 := hV 26 (by decide) rfl
  have h28 := hV 28 (by decide) rfl
  simp only [ownV] at h9 h18 h26 h28
  clear hV
  generalize t 9 = t9 at *
  generalize t 18 = t18 at *
  generalize t 26 = t26 at *
  generalize (t 28).n = g at *
  obtain ⟨hg, hh⟩ := h28
  have p0 := heap_cell hh (i := 0) rfl
  have p1 := heap_cell hh (i := 1) rfl
  have p2 := heap_cell hh (i := 2) rfl
  have p3 := heap_cell hh (i := 3) rfl
  have fz := heap_frozen hh
  obtain ⟨wz, hwz, hzg, hzo, hzl, hzr⟩ := store4 hh (.slice t9.A q0 t9.c) (.slice t18.A q1 t18.c) (.slice none 0 0) (.slice t26.A q3 t26.c)
  have hst : OwnSt m wb g q0 q1 q3 t9 t18 t26 0 wz := ⟨hzl _ hW hg, .slice none 0 0, [], hzg, World.ownsRow_nil _ _ _ _, rfl, fun j hj => by omega,
    hzr _ _ _ _ _ _ (own_ne h9 hh (by decide)) h9, hzr _ _ _ _ _ _ (own_ne h18 hh (by decide)) h18, hzr _ _ _ _ _ _ (own_ne h26 hh (by decide)) h26⟩
  clear hzg hzo hzl hzr
  have HS : Hid (OwnSt m wb g q0 q1 q3 t9 t18 t26 0 wz) := hst
  have hLz : Later wb wz := hst.1
  clear hst
  go_wp2_with fail
  rw [hwz.out]
  clear hwz p0 p1 p2 p3 fz hh h9 h18 h26 hW
  go_loopw [42] (fun i wr => ∃ k : Nat, k ≤ q2 ∧ i = .int .i64 k ∧ OwnSt m wb g q0 q1 q3 t9 t18 t26 k wr) (fun i _ => q2 - (intOf i).toNat)
  case atStart => exact ⟨0, Nat.zero_le _, rfl, HS.out⟩
  case round =>
    obtain ⟨k, hk, rfl, hst⟩ := hrel
    have HT : Hid (OwnSt m wb g q0 q1 q3 t9 t18 t26 k wr) := hst
    obtain ⟨hLr, hv, vals, hob, hoh, hvl, hrows, ho9, ho18, ho26⟩ := hst
    by_cases hlt : k < q2
    · obtain ⟨q, qo, A', nr, c', rfl, x2, x3, x4, x5⟩ := HR2.out.at k hlt
      have hl : nr ≤ 1000000 := by
        have h1 := Hb.out _ (List.mem_of_mem_take (getD_mem (d := []) (k := k) (by rw [HR2.out.1]; exact hlt)))
        have h2 := x5.1; omega
      have hxs : (m.has.take q2)[k]?.getD [] = m.has[k]?.getD [] := by rw [List.getElem?_take_of_lt hlt]
      rw [hxs] at x5
      generalize hX : m.has[k]?.getD [] = xs at x5
      have HX : Hid (m.has[k]?.getD [] = xs) := hX
      clear hX hxs
      obtain ⟨nq, hnq⟩ : ∃ q, q = min nr 20 := ⟨_, rfl⟩
      have zr : (if (20 : Int) < (nr : Int) then (20 : Int) else (nr : Int)) = (nq : Int) := by split <;> omega
      have lr : nq ≤ c' := by omega
      have hqr : nq ≤ nr := by omega
      have hxl : (xs.take nq).length = nq := by rw [List.length_take, x5.1]; omega
      have hx20 : xs.take nq = xs.take 20 := by
        rw [hnq, ← x5.1]
        rcases Nat.le_total xs.length 20 with h | h
        · rw [Nat.min_eq_left h, List.take_of_length_le (Nat.le_refl _), List.take_of_length_le h]
        · rw [Nat.min_eq_right h]
      have Hx20 : Hid (xs.take nq = xs.take 20 ∧ (xs.take nq).length = nq) := ⟨hx20, hxl⟩
      have cR : Hid (∀ W, Later wr W → Calls Try.prog 49 #[.slice A' nq c'] W fun r w' => ∃ D d, r = .returned (.slice D nq d) ∧ Later W w' ∧ w'.ownsRow 0 43 2 (.slice D nq d) nq (flat encE (xs.take nq))) :=
        fun W hW => (cloneE_c A' nq c' _ W (by omega) ((x5.later (hLr.trans hW)).take nq (by omega))).mono fun r w' ⟨v, e, l, o⟩ => by
          obtain ⟨D, d, rfl, h1, h2, h3⟩ := rd_of_own enc_E hxl o
          exact ⟨D, d, e, l, own_base o (Nat.zero_le _)⟩
      have e2 : ∀ W, Later wr W → W.cell? ⟨g, 2, none⟩ = some hv := cel (heap_cell hob (i := 2) rfl)
      have HO : Hid (wr.ownsRow wb.heap.size 54 1 hv k vals) := hoh
      have Hrows : Hid (∀ j, j < k → ∃ A n c, vals[j]? = some (.slice A n c) ∧ wr.ownsRow 0 43 2 (.slice A n c) n (flat encE ((m.has[j]?.getD []).take 20)) ∧ ((m.has[j]?.getD []).take 20).length = n) := hrows
      have Hob : Hid (wr.heap[g]? = some (.cells #[.slice t9.A q0 t9.c, .slice t18.A q1 t18.c, hv, .slice t26.A q3 t26.c] 32 (0, 0))) := hob
      have Ho : Hid (wr.ownsRow 0 47 2 (.slice t9.A q0 t9.c) q0 (flat encE (m.slabs.take q0)) ∧ wr.ownsRow 0 4 1 (.slice t18.A q1 t18.c) q1 (flat encB (m.pinned.take q1)) ∧ wr.ownsRow 0 45 4 (.slice t26.A q3 t26.c) q3 (flat encW (m.bad.take q3))) := ⟨ho9, ho18, ho26⟩
      clear hoh hrows hob ho9 ho18 ho26 hx20 hxl x3 x4 x5 hnq
      obtain ⟨i0, hi, hz0, hz1, hz2⟩ := info_parts infoR
      have Hi : Hid (Try.prog.info? 54 = some i0 ∧ i0.zero = some (.slice none 0 0) ∧ i0.size = 1 ∧ i0.bytes = 24) := ⟨hi, hz0, hz1, hz2⟩
      clear hi hz0 hz1 hz2
      go_wp2_with fail
      refine region_ghost (S := Later wr) (af := ?_) 9 (rowF nq) (rowV wr.heap.size nq (xs.take nq)) rowE rowU (by kernel_rfl) (by kernel_rfl) (by kernel_rfl) (by decide) (by kernel_rfl) (fun _ h => h.drew) (Later.refl _) (fun _ _ h h2 => h.trans h2) (rowVL _ _ _) (rowLoc _ _ _) ?_ ?_
      rotate_left
      · intro t
        repeat (first
          | (refine SeqT.val (v := ?_) (by rfl) (by rfl) (fun W hW => ?_) ?_; rotate_left; (· (go_simp; try with_reducible rfl)); try simp only [Act.put, List.setIfInBounds_toArray, List.set_cons_zero, List.set_cons_succ])
          | (refine SeqT.skip (by rfl) (by rfl) ?_; try simp only [Act.put, List.setIfInBounds_toArray, List.set_cons_zero, List.set_cons_succ])
          | (refine SeqT.call (g := ?_) (args := ?_) (.slice (t 7).A nq (t 7).c) (by rfl) (by rfl) (by rfl) (fun W hW => ?_) (fun W hW hd => ?_) ?_; rotate_left 2; (· (go_simp; first | with_reducible rfl | (refine ⟨?_, ?_⟩ <;> with_reducible rfl))); (· (exact (cR.out W hW).mono fun e W2 ⟨D, d, e1, h1, h2⟩ => ⟨⟨D, 0, d, undef⟩, e1, h2, h1⟩)); try simp only [Act.put, List.setIfInBounds_toArray, List.set_cons_zero, List.set_cons_succ])
          | (refine SeqT.make (.slice (some ⟨(t 8).n, 0, none⟩) 1 1) (by rfl) (by rfl) (by rfl) (fun W hW hd => ?_) ?_; (· (exact ⟨⟨none, W.heap.size, 0, undef⟩, W.alloc (.cells #[.slice (t 7).A nq (t 7).c] 54), by go_simp; first | rfl | exact ⟨rfl, rfl⟩, ⟨hW.sz, heap_alloc_new _ _⟩, (Later.refl W).alloc _⟩)); try simp only [Act.put, List.setIfInBounds_toArray, List.set_cons_zero, List.set_cons_succ])
          )
        exact SeqT.nil _
      intro t W hW hV
      refine wpList_is (l' := [_, _, _]) rfl ?_
      have h7 := hV 7 (by decide) rfl
      have h8 := hV 8 (by decide) rfl
      simp only [rowV] at h7 h8
      clear hV
      generalize t 7 = t7 at *
      generalize (t 8).n = b8 at *
      obtain ⟨h8a, h8⟩ := h8
      have hcell : ∀ j u, [Value.slice t7.A nq t7.c][j]? = some u → W.cell? ((⟨b8, 0, none⟩ : Addr).add j) = some u := fun j u hu => by
        rw [add_at, Nat.zero_add]
        exact heap_cell h8 (by simpa using hu)
      refine wpList_append_own_at _ rfl _ _ 29 rfl wb.heap.size 54 i0 (.slice none 0 0) 1 24 Try.underlying29 Hi.out.1 Hi.out.2.1 Hi.out.2.2.1 Hi.out.2.2.2 rfl (by decide) hv k vals rfl (hW.own HO.out) ⟨b8, 0, none⟩ 1 1 [.slice t7.A nq t7.c] rfl rfl hcell
        (by intro u hu; rw [List.mem_singleton] at hu; subst hu; rfl) (by simp only [maxLen]; omega) (by omega) (hLr.trans hW).sz ?_
      intro v1 w1 ho1 hg1 _ _
      obtain ⟨E1, e1', rfl, -, -⟩ := own_slice ho1
      have hob1 := block_grown (hW.heap Hob.out) (hW.own HO.out) (by decide) hg1
      have z2' := heap_cell hob1 (i := 2) rfl
      have fz := heap_frozen hob1
      have hnext : OwnSt m wb g q0 q1 q3 t9 t18 t26 (k + 1) (w1.setCell ⟨g, 2, none⟩ (.slice E1 (k + 1) e1')) := ownSt_next hLr hg Hob.out HO.out hvl Hrows.out Ho.out hW (n := nq) (c := t7.c) (D := t7.A) (by rw [HX.out, ← Hx20.out.1]; exact h7) (by rw [HX.out, ← Hx20.out.1]; exact Hx20.out.2) ho1 hg1
      have HN : Hid (OwnSt m wb g q0 q1 q3 t9 t18 t26 (k + 1) (w1.setCell ⟨g, 2, none⟩ (.slice E1 (k + 1) e1'))) := hnext
      clear hnext hob1 h7 h8 ho1 hg1 hcell
      go_wp2
      go_roundw
      case rel => exact ⟨k + 1, by omega, by go_num, HN.out⟩
      case measure => simp [intOf]; omega
    · obtain rfl : k = q2 := by omega
      obtain ⟨E, e, rfl, -, -⟩ := own_slice hoh
      have y0 := heap_cell hob (i := 0) rfl
      have y1 := heap_cell hob (i := 1) rfl
      have y2 := heap_cell hob (i := 2) rfl
      have y3 := heap_cell hob (i := 3) rfl
      have hres := hLr.heap Hres.out
      have p0 := heap_cell hres (i := 0) rfl
      have p1 := heap_cell hres (i := 1) rfl
      have p2 := heap_cell hres (i := 2) rfl
      have p3 := heap_cell hres (i := 3) rfl
      have fz := heap_frozen hres
      obtain ⟨wy, hwy, hyg, hyo, hyl, hyr⟩ := store4 hres (.slice t9.A q0 t9.c) (.slice t18.A q1 t18.c) (.slice E k e) (.slice t26.A q3 t26.c)
      have hfin : RMon 130 wy (.agg #[.slice t9.A q0 t9.c, .slice t18.A q1 t18.c, .slice E k e, .slice t26.A q3 t26.c]) (cutM m) :=
        ownSt_end (hyr _ _ _ _ _ _ (own_ne ho9 hres (by decide)) ho9) (hyr _ _ _ _ _ _ (own_ne ho18 hres (by decide)) ho18) (hyr _ _ _ _ _ _ (own_ne ho26 hres (by decide)) ho26) (hyr _ _ _ _ _ _ (own_ne hoh hres (by decide)) hoh) hvl
          (fun j hj => let ⟨A, n, c, r1, r2, r3⟩ := hrows j hj; ⟨A, n, c, r1, hyr _ _ _ _ _ _ (own_ne r2 hres (by decide)) r2, r3⟩) HQ.out.1 HQ.out.2.1 HQ.out.2.2.1 HQ.out.2.2.2
      have HF : Hid (RMon 130 wy (.agg #[.slice t9.A q0 t9.c, .slice t18.A q1 t18.c, .slice E k e, .slice t26.A q3 t26.c]) (cutM m)) := hfin
      have hLy : Later w wy := hyl w (hL.trans hLr) (by omega)
      have s0 := heap_cell hyg (i := 0) rfl
      have s1 := heap_cell hyg (i := 1) rfl
      have s2 := heap_cell hyg (i := 2) rfl
      have s3 := heap_cell hyg (i := 3) rfl
      clear hyg hyo hyl hyr hfin hob hoh hrows ho9 ho18 ho26 hres HT HS
      go_wp2
      rw [hwy.out]
      refine bodyPost_ret (v := .agg #[.slice t9.A q0 t9.c, .slice t18.A q1 t18.c, .slice E k e, .slice t26.A q3 t26.c]) (by rw [results_cell1 rfl]; go_simp) rfl ?_
      exact ⟨_, rfl, hLy, HF.out⟩
end Go.Proofs.Ytdheckfndldbmaa

namespace Go.Proofs.Ytdheckfndldbmaa
open Go.RowKit
attribute [local go_sem] merge_t merge_f merge_a merge_o
attribute [local go_sem] Oper.semAt_some

theorem holdN_prefix (has : List (List E2)) (e : E2) (k : Nat) : ∀ n : Nat, k ≤ n → holdN has e k <+: holdN has e n
  | 0, h => by obtain rfl : k = 0 := by omega
               exact List.prefix_refl _
  | n + 1, h => by
    by_cases hk : k = n + 1
    · subst hk; exact List.prefix_refl _
    · refine (holdN_prefix has e k n (by omega)).trans ?_
      cases hh : decide (e ∈ has[n]?.getD []) with
      | true => rw [holdN_yes hh]; exact List.prefix_append _ _
      | false => rw [holdN_no hh]; exact List.prefix_refl _

/-- what an iterator needs to be kept: what lay in the first world; two boxes of its own -/
def Kept2 (w0 : World) (b2 b3 : Nat) (o2 o3 : Obj) (W : World) : Prop := Later w0 W ∧ W.heap[b2]? = some o2 ∧ W.heap[b3]? = some o3
theorem Kept2.later {w0 W W' : World} {b2 b3 : Nat} {o2 o3 : Obj} (h : Kept2 w0 b2 b3 o2 o3 W) (hL : Later W W') : Kept2 w0 b2 b3 o2 o3 W' := ⟨h.1.trans hL, hL.heap h.2.1, hL.heap h.2.2⟩
/-- a block that is not one of these changes -/
theorem Kept2.grown {w0 W W' : World} {b2 b3 : Nat} {o2 o3 : Obj} (h : Kept2 w0 b2 b3 o2 o3 W) {row : Option Nat} (hg : W.grownBy W' row) (hr : ∀ r, row = some r → w0.heap.size ≤ r ∧ r ≠ b2 ∧ r ≠ b3) : Kept2 w0 b2 b3 o2 o3 W' := by
  refine ⟨later_grown h.1 hg (fun k e => (hr k e).1), ?_, ?_⟩
  · rw [hg.block b2 (Array.getElem?_eq_some_iff.1 h.2.1).1 (fun e => (hr b2 e.symm).2.1 rfl)]; exact h.2.1
  · rw [hg.block b3 (Array.getElem?_eq_some_iff.1 h.2.2).1 (fun e => (hr b3 e.symm).2.2 rfl)]; exact h.2.2
/-- a round keeps what the iterator needs -/
def KpOf (I : World → Prop) (A B : World) : Prop := I A → I B
theorem KpOf.tr {I : World → Prop} {A B C : World} (h : KpOf I A B) (k : KpOf I B C) : KpOf I A C := fun x => k (h x)
theorem kept2_turn {w0 w : World} {b2 b3 : Nat} {o2 o3 : Obj} (h0 : w0.heap.size ≤ w.heap.size) (h2 : b2 < w.heap.size) (h3 : b3 < w.heap.size) (W : World) (l : Nat) (o o' : Obj) (hl : w.heap.size ≤ l) (_ : W.heap[l]? = some o) (_ : o.isCells = false) (_ : o.isWalk = false) :
    KpOf (Kept2 w0 b2 b3 o2 o3) W (W.putObj l o') := fun k => k.grown (grownBy_putObj' W l o') (fun r e => by cases e; omega)

set_option maxRecDepth 100000 in
set_option maxHeartbeats 2000000 in
theorem hold_stops (n b2 b3 : Nat) (A2 : Option Addr) (n2 c2 B : Nat) (has : List (List E2)) (s g : Int) (w0 w : World) (x0 x1 x3 : Value) (hB : B ≤ 1000000) (hn2 : n2 ≤ 1000000) (hb : ∀ l ∈ has, l.length ≤ B) (hR : RdR w0 A2 n2 has)
    (hK : Kept2 w0 b2 b3 (.cells #[x0, x1, .slice A2 n2 c2, x3] 32 (0, 0)) (.cells #[.int .i64 s, .int .u64 g] 43 (0, 0)) w) :
    SeqStopsK Fence.wide n Try.prog 62 #[.pointer (some ⟨b2, 0, none⟩), .pointer (some ⟨b3, 0, none⟩)] (fun x : Int => #[.int .i64 x]) (KpOf (Kept2 w0 b2 b3 (.cells #[x0, x1, .slice A2 n2 c2, x3] 32 (0, 0)) (.cells #[.int .i64 s, .int .u64 g] 43 (0, 0))))
      (fun xs => xs = holdN has (s, g) n2) (fun pre => pre ≠ [] ∧ pre <+: holdN has (s, g) n2) n2 w := by
  intro l J Jx W hW hJ hJx hY h0
  have HR : Hid (RdR w0 A2 n2 has) := hR
  have Hx : Hid (has.length = n2) := hR.1
  have Hb : Hid (∀ l ∈ has, l.length ≤ B) := hb
  have HY := hY
  have hKW := hK.later hW
  have a2 := heap_cell hKW.2.1 (i := 2) rfl
  clear hR hb hY hW hK
  refine callsIn_of_wp Try.func62 rfl trivial ?_ rfl
  simp only [Try.ntmps62, List.size_toArray, List.length_cons, List.length_nil, Nat.reduceAdd, Nat.reduceSub, Array.replicate_succ, Array.replicate_zero, List.push_toArray, List.append_toArray, List.nil_append, List.cons_append]
  have HK := hKW
  clear hKW
  gi_wp2
  gi_loopw [9] (fun i wr => ∃ k : Nat, k ≤ n2 ∧ i = .int .i64 k ∧ Kept2 w0 b2 b3 (.cells #[x0, x1, .slice A2 n2 c2, x3] 32 (0, 0)) (.cells #[.int .i64 s, .int .u64 g] 43 (0, 0)) wr ∧ J (holdN has (s, g) k) wr) (fun i _ => n2 - (intOf i).toNat)
  case atStart => exact ⟨0, Nat.zero_le _, rfl, HK, h0⟩
  case round =>
    obtain ⟨k, hk, rfl, hKr, hJr⟩ := hrel
    have e0 := heap_cell hKr.2.2 (i := 0) rfl
    have e1 := heap_cell hKr.2.2 (i := 1) rfl
    have hL0 := hKr.1
    have HKr := Lib.hid hKr
    clear hKr
    by_cases hlt : k < n2
    · obtain ⟨q, qo, A', nr, c', rfl, x2, x3, x4, x5⟩ := HR.out.at k hlt
      have hl : nr ≤ 1000000 := by have := Hb.out _ (getD_mem (d := []) (k := k) (by rw [Hx.out]; exact hlt)); have := x5.1; omega
      have cH : Hid (∀ W, Later w0 W → Calls Try.prog 15 #[.slice A' nr c', .agg #[.int .i64 s, .int .u64 g]] W fun r w' => r = .returned (.bool (decide ((s, g) ∈ has[k]?.getD []))) ∧ Later W w') := fun W hW => containsE_c A' _ c' _ s g W (by omega) (x5.later hW)
      clear x5
      cases hh : decide ((s, g) ∈ has[k]?.getD []) with
      | false =>
        have cH' : Hid (∀ W, Later w0 W → Calls Try.prog 15 #[.slice A' nr c', .agg #[.int .i64 s, .int .u64 g]] W fun r w' => r = .returned (.bool false) ∧ Later W w') := fun W hW => as_bool (cH.out W hW) hh
        have HH : Hid (decide ((s, g) ∈ has[k]?.getD []) = false) := hh
        clear hh
        gi_wp2_with fail
        refine ⟨trivial, fun h => (by cases h), (callsIn_wide.2 (cH'.out _ hL0)).mono ?_⟩
        rintro e w1 ⟨rfl, hL1⟩
        gi_wp2
        refine ⟨fun _ h => (by cases h), ?_⟩
        gi_wp2
        go_roundw
        case rel => exact ⟨k + 1, by omega, by go_num, HKr.out.later hL1, by rw [holdN_no HH.out]; exact hJ _ _ _ none hJr (hL1.grownBy none) (fun r e => by cases e)⟩
        case measure => simp [intOf]; omega
      | true =>
        have cH' : Hid (∀ W, Later w0 W → Calls Try.prog 15 #[.slice A' nr c', .agg #[.int .i64 s, .int .u64 g]] W fun r w' => r = .returned (.bool true) ∧ Later W w') := fun W hW => as_bool (cH.out W hW) hh
        have HH : Hid (decide ((s, g) ∈ has[k]?.getD []) = true) := hh
        clear hh
        gi_wp2_with fail
        refine ⟨trivial, fun h => (by cases h), (callsIn_wide.2 (cH'.out _ hL0)).mono ?_⟩
        rintro e w1 ⟨rfl, hL1⟩
        have hJ1 : J (holdN has (s, g) k) w1 := hJ _ _ _ none hJr (hL1.grownBy none) (fun r e => by cases e)
        obtain ⟨fn, tmps, assign, body, hy, hR⟩ := HY _ (k : Int) w1 hJ1 (Nat.lt_of_le_of_lt (holdN_len _ _ _) hlt)
        gi_wp2
        refine ⟨fun h => (by cases h), hR.mono ?_⟩
        rintro e W3 (⟨rfl, hJ3, hk3⟩ | ⟨rfl, hJx3⟩)
        · have hK3 := hk3 (HKr.out.later hL1)
          have HK3 := Lib.hid hK3
          clear hK3 hk3
          gi_wp2
          go_roundw
          case rel => exact ⟨k + 1, by omega, by go_num, HK3.out, by rw [holdN_yes HH.out]; exact hJ3⟩
          case measure => simp [intOf]; omega
        · have hp : holdN has (s, g) k ++ [(k : Int)] <+: holdN has (s, g) n2 := by rw [← holdN_yes HH.out]; exact holdN_prefix _ _ _ _ (by omega)
          gi_wp2
          refine bodyPost_ret (results_none rfl _ _ _) rfl ?_
          exact ⟨⟨_, rfl⟩, .inr ⟨_, ⟨by simp, hp⟩, hJx3⟩⟩
    · gi_wp2
      refine bodyPost_end (results_none rfl _ _ _) rfl ?_
      exact ⟨⟨_, rfl⟩, .inl ⟨_, by rw [show n2 = k by omega], hJr⟩⟩
end Go.Proofs.Ytdheckfndldbmaa

namespace Go.Proofs.Ytdheckfndldbmaa
open Go.RowKit

/-- all old blocks but those of S are as they were -/
structure Chg (S : Nat → Prop) (w w' : World) : Prop where
  os : w'.os = w.os
  tape : w'.tape = w.tape
  output : w'.output = w.output
  size : w.heap.size ≤ w'.heap.size
  block : ∀ i, i < w.heap.size → ¬ S i → w'.heap[i]? = w.heap[i]?

variable {S T : Nat → Prop} {w w1 w' : World}
theorem Chg.refl (S : Nat → Prop) (w : World) : Chg S w w := ⟨rfl, rfl, rfl, Nat.le_refl _, fun _ _ _ => rfl⟩
theorem Chg.trans (h : Chg S w w1) (k : Chg S w1 w') : Chg S w w' :=
  ⟨k.os.trans h.os, k.tape.trans h.tape, k.output.trans h.output, Nat.le_trans h.size k.size, fun i hi hS => (k.block i (Nat.lt_of_lt_of_le hi h.size) hS).trans (h.block i hi hS)⟩
/-- the second may change new blocks, too -/
theorem Chg.trans' (h : Chg S w w1) (k : Chg T w1 w') (hT : ∀ i, i < w.heap.size → T i → S i) : Chg S w w' :=
  ⟨k.os.trans h.os, k.tape.trans h.tape, k.output.trans h.output, Nat.le_trans h.size k.size, fun i hi hS => (k.block i (Nat.lt_of_lt_of_le hi h.size) (fun t => hS (hT i hi t))).trans (h.block i hi hS)⟩
theorem Chg.mono (h : Chg S w w') (hT : ∀ i, i < w.heap.size → S i → T i) : Chg T w w' :=
  ⟨h.os, h.tape, h.output, h.size, fun i hi hn => h.block i hi fun s => hn (hT i hi s)⟩
theorem Chg.of_later (h : Later w w') : Chg S w w' := ⟨h.os, h.tape, h.output, h.size, fun i hi _ => h.block i hi⟩
theorem Chg.to_later (h : Chg S w w') (hS : ∀ i, i < w.heap.size → ¬ S i) : Later w w' := ⟨h.os, h.tape, h.output, h.size, fun i hi => h.block i hi (hS i hi)⟩
theorem Chg.later (h : Chg S w w1) (k : Later w1 w') : Chg S w w' := h.trans (.of_later k)
theorem Chg.after (h : Later w w1) (k : Chg S w1 w') : Chg S w w' := (Chg.of_later h).trans k
theorem Chg.of_grown {row : Option Nat} (h : w.grownBy w' row) (hr : ∀ k, row = some k → S k) : Chg S w w' :=
  ⟨h.os, h.tape, h.output, h.size, fun i hi hS => h.block i hi fun e => hS (hr i e.symm)⟩
theorem Chg.grownBy (h : Chg S w w') {row : Option Nat} (hS : ∀ i, i < w.heap.size → S i → row = some i) : w.grownBy w' row :=
  ⟨h.os, h.tape, h.output, h.size, fun i hi hne => h.block i hi fun s => hne (hS i hi s).symm⟩
theorem Chg.set (h : Chg S w w1) {b o : Nat} (hb : S b) (v : Value) : Chg S w (w1.setCell ⟨b, o, none⟩ v) :=
  h.trans ⟨rfl, rfl, rfl, Nat.le_of_eq (World.size_setCell ..).symm, fun _ _ hS => heap_setCell_other _ _ _ _ (fun e => hS (e ▸ hb))⟩
/-- a new block is written -/
theorem Chg.setNew (h : Chg S w w1) {b o : Nat} (hb : w.heap.size ≤ b) (v : Value) : Chg S w (w1.setCell ⟨b, o, none⟩ v) :=
  h.trans' (T := fun i => w.heap.size ≤ i) (Chg.set (.refl _ _) hb v) fun i hi hT => absurd hi (by omega)
theorem Chg.alloc (h : Chg S w w1) (o : Obj) : Chg S w (w1.alloc o) := h.later ((Later.refl _).alloc o)
theorem Chg.heap (h : Chg S w w') {i : Nat} {o : Obj} (ho : w.heap[i]? = some o) (hi : ¬ S i) : w'.heap[i]? = some o := by
  rw [h.block i (Array.getElem?_eq_some_iff.1 ho).1 hi]; exact ho
theorem Chg.cell (h : Chg S w w') {b o : Nat} {v : Value} (hc : w.cell? ⟨b, o, none⟩ = some v) (hi : ¬ S b) : w'.cell? ⟨b, o, none⟩ = some v :=
  (World.cell?_of_block (h.block b (World.block_lt_of_cell? w _ hc) hi)).trans hc
theorem Chg.own (h : Chg S w w') {b : Nat} {e : TypeId} {sz : Nat} {v : Value} {n : Nat} {xs : List Value} (ho : w.ownsRow b e sz v n xs) (hi : ∀ k, v.ownBlock = some k → ¬ S k) : w'.ownsRow b e sz v n xs := by
  refine ⟨ho.1, ?_⟩
  rcases ho.2 with hn | ⟨g, cap, cur, rfl, hb, hgg, rest⟩
  · exact .inl hn
  · exact .inr ⟨g, cap, cur, rfl, hb, h.heap hgg (hi g rfl), rest⟩
theorem Chg.frozen (h : Chg S w w') {b o : Nat} (hb : b < w.heap.size) (hi : ¬ S b) : w'.frozen? ⟨b, o, none⟩ = w.frozen? ⟨b, o, none⟩ := World.frozen?_of_block (a := ⟨b, o, none⟩) (h.block b hb hi)

/-- a box of one's own: what it holds -/
def Box (W : World) (g : Nat) (cs : Array Value) (t : TypeId) : Prop := W.heap[g]? = some (.cells cs t (0, 0))
theorem Box.lt {W : World} {g : Nat} {cs : Array Value} {t : TypeId} (h : Box W g cs t) : g < W.heap.size := (Array.getElem?_eq_some_iff.1 h).1
theorem Box.cell {W : World} {g : Nat} {cs : Array Value} {t : TypeId} (h : Box W g cs t) {i : Nat} {v : Value} (hv : cs[i]? = some v) : W.cell? ⟨g, i, none⟩ = some v := heap_cell h hv
theorem Box.frozen {W : World} {g : Nat} {cs : Array Value} {t : TypeId} (h : Box W g cs t) (i : Nat) : W.frozen? ⟨g, i, none⟩ = false := heap_frozen h i
theorem Box.later {W W' : World} {g : Nat} {cs : Array Value} {t : TypeId} (h : Box W g cs t) (hL : Later W W') : Box W' g cs t := hL.heap h
theorem Box.chg {W W' : World} {g : Nat} {cs : Array Value} {t : TypeId} (h : Box W g cs t) (hL : Chg S W W') (hg : ¬ S g) : Box W' g cs t := hL.heap h hg
theorem Box.new (W : World) (cs : Array Value) (t : TypeId) : Box (W.alloc (.cells cs t)) W.heap.size cs t := heap_alloc_new _ _
theorem Box.alloc {W : World} {g : Nat} {cs : Array Value} {t : TypeId} (h : Box W g cs t) (o : Obj) : Box (W.alloc o) g cs t := h.later ((Later.refl _).alloc o)
theorem Box.drew {W : World} {g : Nat} {cs : Array Value} {t : TypeId} (h : Box W g cs t) : Box W.drew g cs t := h
theorem Box.set {W : World} {g : Nat} {cs : Array Value} {t : TypeId} (h : Box W g cs t) (i : Nat) (v : Value) : Box (W.setCell ⟨g, i, none⟩ v) g (cs.setIfInBounds i v) t := heap_setCell_same _ _ _ _ _ _ h
theorem Box.set_other {W : World} {g g' : Nat} {cs : Array Value} {t : TypeId} (h : Box W g cs t) (hne : g ≠ g') (i : Nat) (v : Value) : Box (W.setCell ⟨g', i, none⟩ v) g cs t := by
  show (W.setCell ⟨g', i, none⟩ v).heap[g]? = _
  rw [heap_setCell_other _ _ _ _ (by simpa using hne)]; exact h
theorem Box.kept {W W' : World} {g : Nat} {cs : Array Value} {t : TypeId} (h : Box W g cs t) {row : Option Nat} (hg : W.grownBy W' row) (hne : some g ≠ row) : Box W' g cs t := (hg.block g h.lt hne).trans h
/-- a box is not what the loop over an iterator turns -/
theorem Box.turned {A B : World} {g : Nat} {cs : Array Value} {t : TypeId} (h : Box A g cs t) {row : Option Nat} (hg : A.grownBy B row) (hr : ∀ r, row = some r → ∃ o : Obj, A.heap[r]? = some o ∧ o.isCells = false) : Box B g cs t :=
  h.kept hg fun e => by obtain ⟨o, ho, hc⟩ := hr _ e.symm; rw [show A.heap[g]? = _ from h] at ho; cases ho; cases hc
end Go.Proofs.Ytdheckfndldbmaa

namespace Go.Proofs.Ytdheckfndldbmaa
open Go.RowKit
attribute [local go_sem] merge_t merge_f merge_a merge_o
attribute [local go_sem] Oper.semAt_some

set_option maxHeartbeats 400000 in
theorem holders_c (x0 x1 x2 x3 : Value) (s g : Int) (w : World) :
    Calls Try.prog 36 #[.agg #[x0, x1, x2, x3], .agg #[.int .i64 s, .int .u64 g]] w fun r w' => r = .returned (.func (.func 62) #[] #[.pointer (some ⟨w.heap.size, 0, none⟩), .pointer (some ⟨w.heap.size + 1, 0, none⟩)]) ∧
      w' = (w.alloc (.cells #[x0, x1, x2, x3] 32)).alloc (.cells #[.int .i64 s, .int .u64 g] 43) := by
  go_enter Try.func36, Try.ntmps36
  go_wp2
  go_ret
  exact ⟨rfl, rfl⟩

theorem cf_hold (args : Array Value) (W : World) : (callFunc 62 args).run Try.prog W = .ok (.enter 62 args) W := by go_simp
def holdersX (m : MonD) (e : E2) : List Int := if monOk m then holdersD m e else []

set_option maxRecDepth 100000 in
set_option maxHeartbeats 4000000 in
theorem mholders_c (B : Nat) (v : Value) (m : MonD) (s g : Int) (w : World) (hB : B ≤ 1000000) (hM : RMon B w v m) :
    Calls Try.prog 19 #[v, .agg #[.int .i64 s, .int .u64 g]] w fun r w' => ∃ v, r = .returned v ∧ Later w w' ∧ OwnI w.heap.size w' v (holdersX m (s, g)) := by
  have HM : Hid (RMon B w v m) := hM
  obtain ⟨A0, n0, c0, A1, n1, c1, A2, n2, c2, A3, n3, c3, rfl, hR0, hR1, hR2, hR3, hb, hc⟩ := hM
  obtain ⟨wb, hwb, hL, hz, f1, f2⟩ := box2 w #[.slice A0 n0 c0, .slice A1 n1 c1, .slice A2 n2 c2, .slice A3 n3 c3] 32 #[.int .i64 s, .int .u64 g] 43
  have a0 := f1 0 (.slice A0 n0 c0) rfl
  have a1 := f1 1 (.slice A1 n1 c1) rfl
  have a2 := f1 2 (.slice A2 n2 c2) rfl
  have a3 := f1 3 (.slice A3 n3 c3) rfl
  have b0 := f2 0 (.int .i64 s) rfl
  have b1 := f2 1 (.int .u64 g) rfl
  clear f1 f2
  have HR : Hid (RdR wb A2 n2 m.has) := hR2.later hL
  have H2 : Hid (m.has.length = n2) := hR2.1
  have H1 : Hid (m.pinned.length = n1) := hR1.1
  have Hb : Hid (∀ l ∈ m.has, l.length ≤ B) := hb.2.2.2.2
  have cK : Hid (∀ W, Later wb W → Calls Try.prog 20 #[.agg #[.slice A0 n0 c0, .slice A1 n1 c1, .slice A2 n2 c2, .slice A3 n3 c3]] W fun r w' => r = .returned (.int .i64 (ckM m)) ∧ Later W w') := fun W hW => mcheck_c B _ m W hB (HM.out.later (hL.trans hW))
  clear hR0 hR1 hR2 hR3 hb hc
  refine (callsIn_wide (n := 9)).1 ?_
  refine callsIn_of_wp_marks Try.func19 rfl trivial ?_ rfl
  refine wpIn_wide.2 ?_
  simp only [Try.ntmps19, List.size_toArray, List.length_cons, List.length_nil, Nat.reduceAdd, Nat.reduceSub, Array.replicate_succ, Array.replicate_zero, List.push_toArray, List.append_toArray, List.nil_append, List.cons_append]
  cases hOk : monOk m with
  | false =>
    have HT : Hid (holdersX m (s, g) = []) := by show _ = _; simp [holdersX, hOk]
    rw [show ckM m = 220 from ckM_bad hOk] at cK
    clear hOk
    go_wp2_with (go_at_call 20; rw [hwb.out]; (with_reducible refine (cK.out _ (Later.refl _)).mono ?_); rintro e w1 ⟨rfl, hL1⟩)
    exact ⟨_, results_tmp rfl _ _ _, _, rfl, hL.trans hL1, by rw [HT.out]; exact World.ownsRow_nil _ _ _ _⟩
  | true =>
    have HT : Hid (holdersX m (s, g) = holdN m.has (s, g) n2) := by show _ = _; simp [holdersX, hOk, holdersD, H2.out]
    have hp := monOk_parts hOk
    have hn8 : n2 ≤ 8 := by rw [← H2.out, hp.2.2.2.1]; exact hp.2.2.1
    rw [show ckM m = 0 from ckM_good hOk] at cK
    clear hOk hp
    obtain ⟨i0, hi, hz0, hz1, hz2⟩ := info_parts infoI
    have Hi : Hid (Try.prog.info? 3 = some i0 ∧ i0.zero = some (.int .i64 0) ∧ i0.size = 1 ∧ i0.bytes = 8) := ⟨hi, hz0, hz1, hz2⟩
    clear hi hz0 hz1 hz2
    go_wp2_with (go_at_call 20; rw [hwb.out]; (with_reducible refine (cK.out _ (Later.refl _)).mono ?_); rintro e w1 ⟨rfl, hL1⟩)
    have hz1 := hL1.sz
    have hLw1 : Later w w1 := hL.trans hL1
    go_wp2_with fail
    refine (holders_c _ _ _ _ _ _ _).mono ?_
    rintro e w2 ⟨rfl, hw2⟩
    have bO : Box w2 w1.heap.size #[.slice none 0 0] 58 := by rw [hw2]; exact ((Box.new w1 _ _).alloc _).alloc _
    have bM : Box w2 (w1.heap.size + 1) #[.slice A0 n0 c0, .slice A1 n1 c1, .slice A2 n2 c2, .slice A3 n3 c3] 32 := by
      rw [hw2]; have := Box.new (w1.alloc (.cells #[.slice none 0 0] 58)) #[.slice A0 n0 c0, .slice A1 n1 c1, .slice A2 n2 c2, .slice A3 n3 c3] 32
      rw [World.size_alloc] at this; exact this.alloc _
    have bE : Box w2 (w1.heap.size + 1 + 1) #[.int .i64 s, .int .u64 g] 43 := by
      rw [hw2]; have := Box.new ((w1.alloc (.cells #[.slice none 0 0] 58)).alloc (.cells #[.slice A0 n0 c0, .slice A1 n1 c1, .slice A2 n2 c2, .slice A3 n3 c3] 32)) #[.int .i64 s, .int .u64 g] 43
      simpa only [World.size_alloc] using this
    have hL2 : Later w1 w2 := by rw [hw2]; exact ((((Later.refl _).alloc _).alloc _).alloc _)
    have hzz : w2.heap.size = w1.heap.size + 3 := by rw [hw2]; simp
    clear hw2
    go_wp2_with fail
    refine wpIn_wide.1 (wpIn_rangeFunc_ownF (n := 9) rfl (by omega) (gf := 62) (lb := #[.pointer (some ⟨w1.heap.size + 1, 0, none⟩), .pointer (some ⟨w1.heap.size + 1 + 1, 0, none⟩)]) rfl trivial cf_hold
      (hold_stops _ (w1.heap.size + 1) (w1.heap.size + 1 + 1) A2 n2 c2 B m.has s g wb w2 _ _ _ hB (by omega) Hb.out HR.out ⟨hL1.trans hL2, bM, bE⟩) (fun h k => KpOf.tr h k) (kept2_turn (by omega) (by omega) (by omega)) (Below.refl _ _) (fun _ => rfl)
      (fun pre W => (∃ v, Boxed W w1.heap.size 58 v ∧ W.ownsRow w1.heap.size 3 1 v pre.length (flat encI pre) ∧ True) ∧ Below w1.heap.size w1 W)
      (fun _ _ _ => False)
      (OwnFrom.and (Own.from (holdsRow_own w1.heap.size w1.heap.size 58 3 1 (fun pre : List Int => pre.length) (fun pre => flat encI pre) (fun _ _ => True)) _) (ownFrom_below (Nat.le_refl _) (by omega)))
      (fun _ _ _ _ _ hs _ _ => hs)
      ⟨⟨_, bO, World.ownsRow_nil _ _ _ _, trivial⟩, hL2⟩
      (fun x => { tmps := #[.agg #[.slice A0 n0 c0, .slice A1 n1 c1, .slice A2 n2 c2, .slice A3 n3 c3], .agg #[.int .i64 s, .int .u64 g], .pointer (some ⟨w.heap.size, 0, none⟩), .pointer (some ⟨w.heap.size + 1, 0, none⟩), .slice none 0 0,
        .pointer (some ⟨w1.heap.size, 0, none⟩), .int .i64 x, .agg #[.slice A0 n0 c0, .slice A1 n1 c1, .slice A2 n2 c2, .slice A3 n3 c3], .int .i64 0, .bool false, .agg #[.slice A0 n0 c0, .slice A1 n1 c1, .slice A2 n2 c2, .slice A3 n3 c3], .agg #[.int .i64 s, .int .u64 g],
        .func (.func 62) #[] #[.pointer (some ⟨w1.heap.size + 1, 0, none⟩), .pointer (some ⟨w1.heap.size + 1 + 1, 0, none⟩)], .int .i64 x, undef, undef, undef, undef, undef], defers := [] }) ?assign ?body ?done ?stop)
    case assign =>
      intro l x W K hK
      gi_wp2
      exact hK
    case body =>
      rintro l pre x W ⟨⟨v, hv, hrow, -⟩, hB1⟩ hlt
      have hc := hv.cell
      have hBs := hB1.size
      gi_wp2_with (gi_at_builtin; refine wpListIn_append_own _ rfl _ _ 58 rfl w1.heap.size 3 i0 (.int .i64 0) 1 8 Try.underlying58 Hi.out.1 Hi.out.2.1 Hi.out.2.2.1 Hi.out.2.2.2 rfl (by decide) _ _ _ rfl (hrow.alloc _) ⟨W.heap.size, 0, none⟩ 1 1 [.int .i64 x] rfl rfl (cell_one_new _ _ _) (by simp [Value.oneCell']) (by simp only [maxLen]; omega) (by omega) (by simp; omega) ?_; intro v' w3 hown' hgrow _; obtain ⟨g', cap', rfl⟩ := ownsRow_succ hown'; obtain ⟨hv1, hv2, hr2, hk2, hb2⟩ := hv.appended (by decide) hrow hB1.size (Nat.le_refl _) hown' hgrow; have hc1 := hv1.cell; have hf1 := hv1.frozen)
      refine ⟨hk2, fun hkp => ?_, ⟨_, hv2, by rw [List.length_append, flat_append, flat_one]; exact hr2, trivial⟩, hB1.trans hb2⟩
      refine ((hkp.later ((Later.refl _).alloc _)).grown hgrow fun r hr => ?_).grown (grownBy_setCell' _ _ _) fun r hr => ?_
      · exact ⟨by have := (hrow.lt r hr).1; omega, fun e => own_ne hrow hkp.2.1 (by decide) (e ▸ hr), fun e => own_ne hrow hkp.2.2 (by decide) (e ▸ hr)⟩
      · cases hr; omega
    case done =>
      rintro D ys W hD rfl ⟨⟨v, hv, hrow, -⟩, hB1⟩ hK
      have hc := hv.cell
      go_wp2
      refine ⟨by simp, .inl ⟨_, _, rfl, run_takeDeferred hK, ?_⟩⟩
      refine ⟨_, results_tmp rfl _ _ _, v, rfl, ?_, ?_⟩
      · exact later_below hLw1 (hB1.trans (belowK_b (w := w1) (Nat.le_refl _) W D _ _ (by omega) hK rfl rfl)) hLw1.sz
      · rw [HT.out]; exact own_base (ownsRow_putObj hrow _ hK rfl) hLw1.sz
    case stop =>
      rintro D c pre W _ _ h _
      exact h.elim

def safeX (m : MonD) (e : E2) : Bool := monOk m && safeD m e
theorem tag_02 {xs : List E2} (hA : arenaOk xs = true) (e : E2) : (ckT xs e && decide (tagD xs e ≠ 0)) = (tgd xs e 1 || tgd xs e 2) := by
  unfold tgd tagD ckT
  rw [hA]
  cases hm : meantD xs e with
  | false => simp
  | true =>
    have h2 := meant_lt (s := e.1) (g := e.2) hm
    have hx : slabOk (xs[e.1.toNat]?.getD (0, 0)) = true := by
      simp only [arenaOk, Bool.and_eq_true] at hA
      exact List.all_eq_true.1 hA.2.2 _ (getD_mem (by omega))
    simp only [slabOk, Bool.and_eq_true, decide_eq_true_eq] at hx
    simp only [Bool.true_and, Bool.and_self, if_true]
    rw [Bool.eq_iff_iff]; simp; omega

set_option maxRecDepth 100000 in
set_option maxHeartbeats 4000000 in
theorem msafe_c (B : Nat) (v : Value) (m : MonD) (s g : Int) (w : World) (hB : B ≤ 1000000) (hM : RMon B w v m) :
    Calls Try.prog 13 #[v, .agg #[.int .i64 s, .int .u64 g]] w fun r w' => r = .returned (.bool (safeX m (s, g))) ∧ Later w w' := by
  have HM : Hid (RMon B w v m) := hM
  obtain ⟨A0, n0, c0, A1, n1, c1, A2, n2, c2, A3, n3, c3, rfl, hR0, hR1, hR2, hR3, hb, hc⟩ := hM
  obtain ⟨wb, hwb, hL, hz, f1, f2⟩ := box2 w #[.slice A0 n0 c0, .slice A1 n1 c1, .slice A2 n2 c2, .slice A3 n3 c3] 32 #[.int .i64 s, .int .u64 g] 43
  have a0 := f1 0 (.slice A0 n0 c0) rfl
  have a1 := f1 1 (.slice A1 n1 c1) rfl
  have a2 := f1 2 (.slice A2 n2 c2) rfl
  have a3 := f1 3 (.slice A3 n3 c3) rfl
  have b0 := f2 0 (.int .i64 s) rfl
  have b1 := f2 1 (.int .u64 g) rfl
  have hws : wb.heap.size = w.heap.size + 1 + 1 := by rw [← hwb.out]; simp
  have Hws := Lib.hid hws
  clear f1 f2 hws
  have HR : Hid (RdR wb A2 n2 m.has) := hR2.later hL
  have H2 : Hid (m.has.length = n2) := hR2.1
  have H1 : Hid (m.pinned.length = n1) := hR1.1
  have Hb : Hid (∀ l ∈ m.has, l.length ≤ B) := hb.2.2.2.2
  have cK : Hid (∀ W, Later wb W → Calls Try.prog 20 #[.agg #[.slice A0 n0 c0, .slice A1 n1 c1, .slice A2 n2 c2, .slice A3 n3 c3]] W fun r w' => r = .returned (.int .i64 (ckM m)) ∧ Later W w') := fun W hW => mcheck_c B _ m W hB (HM.out.later (hL.trans hW))
  obtain ⟨tg, htg⟩ : ∃ t, t = tagD m.slabs (s, g) := ⟨_, rfl⟩
  obtain ⟨mt, hmt⟩ : ∃ t, t = ckT m.slabs (s, g) := ⟨_, rfl⟩
  have cT : Hid (∀ W, Later wb W → Calls Try.prog 12 #[.agg #[.slice A0 n0 c0], .agg #[.int .i64 s, .int .u64 g]] W fun r w' => r = .returned (.tuple #[.int .i64 tg, .bool mt]) ∧ Later W w') := fun W hW => by
    rw [htg, hmt]; exact tag_c A0 n0 c0 m.slabs s g W (by omega) (hR0.later (hL.trans hW))
  have hT : arenaOk m.slabs = true → (mt && decide (tg ≠ 0)) = (tgd m.slabs (s, g) 1 || tgd m.slabs (s, g) 2) := fun h => by rw [htg, hmt]; exact tag_02 h _
  have HT2 := Lib.hid hT
  clear hR0 hR1 hR2 hR3 hb hc htg hmt hT
  refine (callsIn_wide (n := 9)).1 ?_
  refine callsIn_of_wp_marks Try.func13 rfl trivial ?_ rfl
  refine wpIn_wide.2 ?_
  simp only [Try.ntmps13, List.size_toArray, List.length_cons, List.length_nil, Nat.reduceAdd, Nat.reduceSub, Array.replicate_succ, Array.replicate_zero, List.push_toArray, List.append_toArray, List.nil_append, List.cons_append]
  cases hOk : monOk m with
  | false =>
    have HT : Hid (safeX m (s, g) = false) := by show _ = _; simp [safeX, hOk]
    rw [show ckM m = 220 from ckM_bad hOk] at cK
    clear hOk
    go_wp2_with fail
    rw [hwb.out]
    refine (cK.out _ ((Later.refl _).alloc _)).mono ?_
    rintro e w1 ⟨rfl, hL1⟩
    have bO := (Box.new wb #[.bool false] 4).later hL1
    rw [Hws.out] at bO
    have z0 := bO.cell (i := 0) rfl
    have z1 := bO.frozen
    have HbO := Lib.hid bO
    clear bO
    go_wp2
    exact ⟨.bool false, by rw [results_cell1 rfl]; go_simp, by rw [HT.out], ((hL.alloc _).trans hL1).set (by omega) _⟩
  | true =>
    have hp := monOk_parts hOk
    have hn8 : n2 ≤ 8 := by rw [← H2.out, hp.2.2.2.1]; exact hp.2.2.1
    have HS : Hid (safeX m (s, g) = (decide ((holdN m.has (s, g) n2).length = 0) && (mt && decide (tg ≠ 0)))) := by
      show _ = _
      rw [safeX, hOk, Bool.true_and, safeD, holdersD, H2.out, HT2.out hp.1]
    rw [show ckM m = 0 from ckM_good hOk] at cK
    clear hOk hp
    go_wp2_with fail
    rw [hwb.out]
    refine (cK.out _ ((Later.refl _).alloc _)).mono ?_
    rintro e w1 ⟨rfl, hL1⟩
    have bO := (Box.new wb #[.bool false] 4).later hL1
    rw [Hws.out] at bO
    have hLb : Later wb w1 := ((Later.refl _).alloc _).trans hL1
    have hz1 := hL1.sz
    simp only [World.size_alloc] at hz1
    clear hL1
    go_wp2_with fail
    refine (holders_c _ _ _ _ _ _ _).mono ?_
    rintro e w2 ⟨rfl, hw2⟩
    have bM : Box w2 w1.heap.size #[.slice A0 n0 c0, .slice A1 n1 c1, .slice A2 n2 c2, .slice A3 n3 c3] 32 := by rw [hw2]; exact (Box.new _ _ _).alloc _
    have bE : Box w2 (w1.heap.size + 1) #[.int .i64 s, .int .u64 g] 43 := by
      rw [hw2]; have := Box.new (w1.alloc (.cells #[.slice A0 n0 c0, .slice A1 n1 c1, .slice A2 n2 c2, .slice A3 n3 c3] 32)) #[.int .i64 s, .int .u64 g] 43
      simpa only [World.size_alloc] using this
    have hL2 : Later w1 w2 := by rw [hw2]; exact (((Later.refl _).alloc _).alloc _)
    have hzz : w2.heap.size = w1.heap.size + 2 := by rw [hw2]; simp
    have bO2 := bO.later hL2
    clear hw2 bO
    go_wp2_with fail
    refine wpIn_wide.1 (wpIn_rangeFunc_ownF (n := 9) rfl (by omega) (gf := 62) (lb := #[.pointer (some ⟨w1.heap.size, 0, none⟩), .pointer (some ⟨w1.heap.size + 1, 0, none⟩)]) rfl trivial cf_hold
      (hold_stops _ w1.heap.size (w1.heap.size + 1) A2 n2 c2 B m.has s g wb w2 _ _ _ hB (by omega) Hb.out HR.out ⟨hLb.trans hL2, bM, bE⟩) (fun h k => KpOf.tr h k) (kept2_turn (by omega) (by omega) (by omega)) (Below.refl _ _) (fun _ => rfl)
      (fun pre W => (pre = [] ∧ Box W (w.heap.size + 1 + 1) #[.bool false] 4) ∧ Below wb.heap.size wb W)
      (fun c _ W => (c = .ret ∧ Box W (w.heap.size + 1 + 1) #[.bool false] 4) ∧ Below wb.heap.size wb W)
      (OwnFrom.and (Own.from (fun s A B row hs hg hr => ⟨hs.1, Box.turned hs.2 hg hr⟩) _) (ownFrom_below (Nat.le_refl _) (by omega)))
      (fun c => OwnFrom.and (Own.from (fun s A B row hs hg hr => ⟨hs.1, Box.turned hs.2 hg hr⟩) _) (ownFrom_below (Nat.le_refl _) (by omega)))
      ⟨⟨rfl, bO2⟩, hLb.trans hL2⟩
      (fun x => { tmps := #[.agg #[.slice A0 n0 c0, .slice A1 n1 c1, .slice A2 n2 c2, .slice A3 n3 c3], .agg #[.int .i64 s, .int .u64 g], .pointer (some ⟨w.heap.size, 0, none⟩), .pointer (some ⟨w.heap.size + 1, 0, none⟩), .pointer (some ⟨w.heap.size + 1 + 1, 0, none⟩), undef, undef,
        .agg #[.slice A0 n0 c0, .slice A1 n1 c1, .slice A2 n2 c2, .slice A3 n3 c3], .int .i64 0, .bool false, .agg #[.slice A0 n0 c0, .slice A1 n1 c1, .slice A2 n2 c2, .slice A3 n3 c3], .agg #[.int .i64 s, .int .u64 g],
        .func (.func 62) #[] #[.pointer (some ⟨w1.heap.size, 0, none⟩), .pointer (some ⟨w1.heap.size + 1, 0, none⟩)], .int .i64 x, undef, undef, undef, undef, undef, undef, undef, undef, undef, undef, undef, undef], defers := [] }) ?assign ?body ?done ?stop)
    case assign =>
      intro l x W K hK
      gi_wp2
      simpa using hK
    case body =>
      rintro l pre x W ⟨⟨-, hv⟩, hB1⟩ hlt
      have hc := hv.cell (i := 0) rfl
      have hf := hv.frozen
      gi_wp2
      refine ⟨KeepsOthers.setCell _ _ _, ⟨rfl, by simpa using hv.set 0 (.bool false)⟩, hB1.setCell (p := ⟨w.heap.size + 1 + 1, 0, none⟩) (by rw [Hws.out]; exact Nat.le_refl _) _⟩
    case done =>
      rintro D ys W hD hys ⟨⟨rfl, hv⟩, hB1⟩ hK
      have hLW : Later wb W := hB1
      have hc := hv.cell (i := 0) rfl
      have hf := hv.frozen
      have hg : (holdN m.has (s, g) n2).length = 0 := by rw [← hys]; rfl
      have HS2 : Hid (safeX m (s, g) = (mt && decide (tg ≠ 0))) := by show _ = _; rw [HS.out, hg]; rfl
      have HK := Lib.hid hK
      have HV := Lib.hid hv
      have FIN : ∀ (bb : Bool) (w4 : World) (tm : Array Value), Later W w4 → safeX m (s, g) = bb → tm.getD 4 undef = .pointer (some ⟨w.heap.size + 1 + 1, 0, none⟩) →
          bodyPostM Fence.wide 9 Try.prog Try.f13 (fun r w' => r = .returned (.bool (safeX m (s, g))) ∧ Later w w') .ret { tmps := tm, defers := [{ target := .collected D, args := #[] }] } (w4.setCell ⟨w.heap.size + 1 + 1, 0, none⟩ (.bool bb)) := by
        intro bb w4 tm hL4 hbb htm
        have hK4 := hL4.heap hK
        have hws := Hws.out
        have hDne : D ≠ w.heap.size + 1 + 1 := by omega
        have hv5 : Box (w4.setCell ⟨w.heap.size + 1 + 1, 0, none⟩ (.bool bb)) (w.heap.size + 1 + 1) #[.bool bb] 4 := by simpa using (hv.later hL4).set 0 (.bool bb)
        have hL5 : Later w (w4.setCell ⟨w.heap.size + 1 + 1, 0, none⟩ (.bool bb)) := (hL.trans (hLW.trans hL4)).set (by omega) _
        generalize hw5 : w4.setCell ⟨w.heap.size + 1 + 1, 0, none⟩ (.bool bb) = w5 at *
        have hK5 : w5.heap[D]? = some (.deferred (some [])) := by rw [← hw5, heap_setCell_other _ _ _ _ hDne]; exact hK4
        refine ⟨by simp, .inl ⟨_, _, rfl, run_takeDeferred hK5, ?_⟩⟩
        have hLD := belowK_b (w := w2) (n₀ := w.heap.size) (by omega) w5 D _ (.deferred none) (by omega) hK5 rfl rfl
        have hv6 := Box.turned hv5 (grownBy_putObj' w5 D (.deferred none)) (fun r e => by cases e; exact ⟨_, hK5, rfl⟩)
        have hc6 := hv6.cell (i := 0) rfl
        exact ⟨.bool bb, by rw [results_cell1 rfl]; rw [htm]; go_simp, by rw [hbb], Below.trans hL5 hLD⟩
      clear hg hys hK hv
      cases mt <;> by_cases ht : tg = 0
      all_goals
        first
        | (have htb : (tg != 0) = false := by rw [ht]; rfl)
        | (have htb : (tg != 0) = true := by rw [bne_iff_ne]; exact ht)
        go_wp2_with (go_at_call 12; (with_reducible refine (cT.out _ hLW).mono ?_); rintro e w4 ⟨rfl, hL4⟩; have hv4 := HV.out.later hL4; have hc4 := hv4.cell (i := 0) rfl; have hf4 := hv4.frozen)
        first
        | exact FIN false w4 _ hL4 (by rw [HS2.out]; simp [ht]) rfl
        | exact FIN true w4 _ hL4 (by rw [HS2.out]; simp [ht]) rfl
    case stop =>
      rintro D c pre W hD ⟨hne, hpre⟩ ⟨⟨rfl, hv⟩, hB1⟩ hK
      have hc := hv.cell (i := 0) rfl
      have hg : (holdN m.has (s, g) n2).length ≠ 0 := by
        obtain ⟨t, ht⟩ := hpre
        rw [← ht]; cases pre with | nil => exact absurd rfl hne | cons a b => simp
      have HS2 : Hid (safeX m (s, g) = false) := by show _ = _; rw [HS.out, decide_eq_false hg]; rfl
      clear hg hne hpre
      gi_wp2
      refine ⟨by simp, .inl ⟨_, _, rfl, run_takeDeferred hK, ?_⟩⟩
      have hLD := belowK_b (w := w2) (n₀ := wb.heap.size) (by omega) W D _ (.deferred none) (by omega) hK rfl rfl
      have hv2 := Box.turned hv (grownBy_putObj' W D (.deferred none)) (fun r e => by cases e; exact ⟨_, hK, rfl⟩)
      have hc2 := hv2.cell (i := 0) rfl
      exact ⟨.bool false, by rw [results_cell1 rfl]; go_simp, by rw [HS2.out], later_below hL (hB1.trans hLD) hL.sz⟩
end Go.Proofs.Ytdheckfndldbmaa
