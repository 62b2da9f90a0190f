/- Words of this session: a world that has only grown, and slices that are read in every such world. | A region that draws its order, each of whose operations gives a known value in every world that meets S: whatever order comes up, the frame is the one of the text's order. | Small functions of the arena, the monitor and their references: each contract says what the call gives back, in a world that has only grown. | need leaves by a panic; an entry is meant; is an entry among others. | An entry is meant, by the program and by the reference. -/
import Derived.WalkKit
import Derived.WalkSpells
import Derived.WalkLawsBesides
import Derived.Deep.RegionHeld3
import Derived.Deep.DeepCutAuto
import Derived.Orders
import Derived.Test.YtdheckfndldbmaaRows
namespace Go.Proofs.Ytdheckfndldbmaa
open Go.RowKit

/-- the world has only grown: every old block is as it was -/
def Later (w w' : World) : Prop := Below w.heap.size w w'
theorem Later.refl (w : World) : Later w w := Below.refl _ _
theorem Later.sz {w W : World} (h : Later w W) : w.heap.size ≤ W.heap.size := h.size
theorem Later.trans {a b c : World} (h : Later a b) (k : Later b c) : Later a c :=
  Below.trans h ⟨k.os, k.tape, k.output, k.size, fun i hi => k.block i (Nat.lt_of_lt_of_le hi h.size)⟩
theorem Later.alloc {w W : World} (h : Later w W) (o : Obj) : Later w (W.alloc o) := Below.alloc h h.size o
theorem Later.drew {w W : World} (h : Later w W) : Later w W.drew := Below.drew h
theorem Later.drewN {w W : World} (h : Later w W) (n : Nat) : Later w (W.drewN n) := ⟨h.os, h.tape, h.output, h.size, h.block⟩
theorem Later.set {w W : World} (h : Later w W) {b o : Nat} (hb : w.heap.size ≤ b) (v : Value) : Later w (W.setCell ⟨b, o, none⟩ v) := Below.setCell (p := ⟨b, o, none⟩) h hb v
theorem Later.cell {w W : World} (h : Later w W) {b o : Nat} (hb : b < w.heap.size) : W.cell? ⟨b, o, none⟩ = w.cell? ⟨b, o, none⟩ := Below.cell (p := ⟨b, o, none⟩) h hb
theorem Later.frozen {w W : World} (h : Later w W) {b o : Nat} (hb : b < w.heap.size) : W.frozen? ⟨b, o, none⟩ = w.frozen? ⟨b, o, none⟩ := Below.frozen (p := ⟨b, o, none⟩) h hb
theorem Later.of_cell {w W : World} (h : Later w W) {b o : Nat} {v : Value} (hc : w.cell? ⟨b, o, none⟩ = some v) : W.cell? ⟨b, o, none⟩ = some v :=
  (h.cell (World.block_lt_of_cell? w _ hc)).trans hc
@[go_sem] theorem later_refl (w : World) : Later w w ↔ True := ⟨fun _ => trivial, fun _ => Later.refl w⟩
@[go_sem] theorem later_alloc {w W : World} (o : Obj) (h : Later w W) : Later w (W.alloc o) ↔ True := ⟨fun _ => trivial, fun _ => h.alloc o⟩
@[go_sem] theorem later_drew {w W : World} (h : Later w W) : Later w W.drew ↔ True := ⟨fun _ => trivial, fun _ => h.drew⟩
@[go_sem] theorem later_drewN {w W : World} (n : Nat) (h : Later w W) : Later w (W.drewN n) ↔ True := ⟨fun _ => trivial, fun _ => h.drewN n⟩
@[go_sem] theorem later_set {w W : World} (b o : Nat) (v : Value) (hb : w.heap.size ≤ b) (h : Later w W) : Later w (W.setCell ⟨b, o, none⟩ v) ↔ True := ⟨fun _ => trivial, fun _ => h.set hb v⟩
/-- a cell that is read in every later world -/
theorem cel {w : World} {b o : Nat} {v : Value} (h : w.cell? ⟨b, o, none⟩ = some v) : ∀ W, Later w W → W.cell? ⟨b, o, none⟩ = some v := fun _ hW => hW.of_cell h
/-- the same from a later world on -/
theorem celw {w w1 : World} {b o : Nat} {v : Value} (hL : Later w w1) (h : ∀ W, Later w W → W.cell? ⟨b, o, none⟩ = some v) : ∀ W, Later w1 W → W.cell? ⟨b, o, none⟩ = some v := fun W hW => h W (hL.trans hW)

/-- A slice that is read: its cells lie from the address on, each element's in `sz` cells. -/
def Rd {α : Type} (sz : Nat) (enc : α → List Value) (w : World) (A : Option Addr) (n : Nat) (xs : List α) : Prop :=
  xs.length = n ∧ (0 < n → ∃ b off, A = some ⟨b, off, none⟩ ∧ ∀ k x, xs[k]? = some x → ∀ j v, (enc x)[j]? = some v → w.cell? ⟨b, off + k * sz + j, none⟩ = some v)
theorem Rd.len {α : Type} {sz : Nat} {enc : α → List Value} {w : World} {A : Option Addr} {n : Nat} {xs : List α} (h : Rd sz enc w A n xs) : xs.length = n := h.1
theorem Rd.later {α : Type} {sz : Nat} {enc : α → List Value} {w W : World} {A : Option Addr} {n : Nat} {xs : List α} (h : Rd sz enc w A n xs) (hL : Later w W) : Rd sz enc W A n xs :=
  ⟨h.1, fun hn => let ⟨b, off, e, hc⟩ := h.2 hn; ⟨b, off, e, fun k x hx j v hv => hL.of_cell (hc k x hx j v hv)⟩⟩
theorem Rd.nil {α : Type} (sz : Nat) (enc : α → List Value) (w : World) : Rd sz enc w none 0 ([] : List α) := ⟨rfl, fun h => absurd h (by omega)⟩
theorem Rd.empty {α : Type} (sz : Nat) (enc : α → List Value) (w : World) (A : Option Addr) : Rd sz enc w A 0 ([] : List α) := ⟨rfl, fun h => absurd h (by omega)⟩
/-- the first elements -/
theorem Rd.take {α : Type} {sz : Nat} {enc : α → List Value} {w : World} {A : Option Addr} {n : Nat} {xs : List α} (h : Rd sz enc w A n xs) (m : Nat) (hm : m ≤ n) : Rd sz enc w A m (xs.take m) := by
  refine ⟨by rw [List.length_take, h.1]; omega, fun hp => ?_⟩
  obtain ⟨b, off, e, hc⟩ := h.2 (by omega)
  refine ⟨b, off, e, fun k x hx => hc k x ?_⟩
  rw [List.getElem?_take] at hx
  split at hx
  · exact hx
  · cases hx

/-- pairs of an int and a uint64: entries, slabs -/
abbrev E2 := Int × Int
def encE (e : E2) : List Value := [.int .i64 e.1, .int .u64 e.2]
def encI (x : Int) : List Value := [.int .i64 x]
def encB (x : Bool) : List Value := [.bool x]
/-- what is watched: kind, goroutine, slab, generation -/
abbrev W4 := Int × Int × Int × Int
def encW (x : W4) : List Value := [.int .i64 x.1, .int .i64 x.2.1, .int .i64 x.2.2.1, .int .u64 x.2.2.2]

theorem Rd.atE {w : World} {A : Option Addr} {n : Nat} {xs : List E2} (h : Rd 2 encE w A n xs) (k : Nat) (hk : k < n) :
    ∃ b off, A = some ⟨b, off, none⟩ ∧ (∀ W, Later w W → W.cell? ⟨b, off + k * 2, none⟩ = some (.int .i64 (xs[k]?.getD (0, 0)).1)) ∧
      (∀ W, Later w W → W.cell? ⟨b, off + k * 2 + 1, none⟩ = some (.int .u64 (xs[k]?.getD (0, 0)).2)) := by
  obtain ⟨b, off, e, hc⟩ := h.2 (by omega)
  have hx : xs[k]? = some (xs[k]?.getD (0, 0)) := by rw [List.getElem?_eq_getElem (by rw [h.1]; exact hk)]; rfl
  exact ⟨b, off, e, cel (hc k _ hx 0 _ rfl), cel (hc k _ hx 1 _ rfl)⟩
theorem Rd.atI {w : World} {A : Option Addr} {n : Nat} {xs : List Int} (h : Rd 1 encI w A n xs) (k : Nat) (hk : k < n) :
    ∃ b off, A = some ⟨b, off, none⟩ ∧ (∀ W, Later w W → W.cell? ⟨b, off + k, none⟩ = some (.int .i64 (xs[k]?.getD 0))) := by
  obtain ⟨b, off, e, hc⟩ := h.2 (by omega)
  have hx : xs[k]? = some (xs[k]?.getD 0) := by rw [List.getElem?_eq_getElem (by rw [h.1]; exact hk)]; rfl
  have := hc k _ hx 0 _ rfl
  simp only [Nat.mul_one, Nat.add_zero] at this
  exact ⟨b, off, e, cel this⟩
theorem Rd.atB {w : World} {A : Option Addr} {n : Nat} {xs : List Bool} (h : Rd 1 encB w A n xs) (k : Nat) (hk : k < n) :
    ∃ b off, A = some ⟨b, off, none⟩ ∧ (∀ W, Later w W → W.cell? ⟨b, off + k, none⟩ = some (.bool (xs[k]?.getD false))) := by
  obtain ⟨b, off, e, hc⟩ := h.2 (by omega)
  have hx : xs[k]? = some (xs[k]?.getD false) := by rw [List.getElem?_eq_getElem (by rw [h.1]; exact hk)]; rfl
  have := hc k _ hx 0 _ rfl
  simp only [Nat.mul_one, Nat.add_zero] at this
  exact ⟨b, off, e, cel this⟩
theorem Rd.atW {w : World} {A : Option Addr} {n : Nat} {xs : List W4} (h : Rd 4 encW w A n xs) (k : Nat) (hk : k < n) :
    ∃ b off, A = some ⟨b, off, none⟩ ∧ (∀ W, Later w W → W.cell? ⟨b, off + k * 4, none⟩ = some (.int .i64 (xs[k]?.getD (0, 0, 0, 0)).1)) ∧
      (∀ W, Later w W → W.cell? ⟨b, off + k * 4 + 1, none⟩ = some (.int .i64 (xs[k]?.getD (0, 0, 0, 0)).2.1)) ∧
      (∀ W, Later w W → W.cell? ⟨b, off + k * 4 + 2, none⟩ = some (.int .i64 (xs[k]?.getD (0, 0, 0, 0)).2.2.1)) ∧
      (∀ W, Later w W → W.cell? ⟨b, off + k * 4 + 3, none⟩ = some (.int .u64 (xs[k]?.getD (0, 0, 0, 0)).2.2.2)) := by
  obtain ⟨b, off, e, hc⟩ := h.2 (by omega)
  have hx : xs[k]? = some (xs[k]?.getD (0, 0, 0, 0)) := by rw [List.getElem?_eq_getElem (by rw [h.1]; exact hk)]; rfl
  exact ⟨b, off, e, cel (hc k _ hx 0 _ rfl), cel (hc k _ hx 1 _ rfl), cel (hc k _ hx 2 _ rfl), cel (hc k _ hx 3 _ rfl)⟩

/-- rows of entries: each cell holds a slice that is read -/
def RdR (w : World) (A : Option Addr) (n : Nat) (rows : List (List E2)) : Prop :=
  rows.length = n ∧ (0 < n → ∃ b off, A = some ⟨b, off, none⟩ ∧ ∀ k r, rows[k]? = some r → ∃ A' nr c, w.cell? ⟨b, off + k, none⟩ = some (.slice A' nr c) ∧ nr ≤ c ∧ c ≤ 9223372036854775807 ∧ Rd 2 encE w A' nr r)
theorem RdR.later {w W : World} {A : Option Addr} {n : Nat} {rows : List (List E2)} (h : RdR w A n rows) (hL : Later w W) : RdR W A n rows :=
  ⟨h.1, fun hn => let ⟨b, off, e, hc⟩ := h.2 hn; ⟨b, off, e, fun k r hr => let ⟨A', nr, c, h1, h2, h3, h4⟩ := hc k r hr; ⟨A', nr, c, hL.of_cell h1, h2, h3, h4.later hL⟩⟩⟩
theorem RdR.at {w : World} {A : Option Addr} {n : Nat} {rows : List (List E2)} (h : RdR w A n rows) (k : Nat) (hk : k < n) :
    ∃ b off A' nr c, A = some ⟨b, off, none⟩ ∧ (∀ W, Later w W → W.cell? ⟨b, off + k, none⟩ = some (.slice A' nr c)) ∧ nr ≤ c ∧ c ≤ 9223372036854775807 ∧ Rd 2 encE w A' nr (rows[k]?.getD []) := by
  obtain ⟨b, off, e, hc⟩ := h.2 (by omega)
  have hx : rows[k]? = some (rows[k]?.getD []) := by rw [List.getElem?_eq_getElem (by rw [h.1]; exact hk)]; rfl
  obtain ⟨A', nr, c, h1, h2, h3, h4⟩ := hc k _ hx
  exact ⟨b, off, A', nr, c, e, cel h1, h2, h3, h4⟩
theorem RdR.take {w : World} {A : Option Addr} {n : Nat} {rows : List (List E2)} (h : RdR w A n rows) (m : Nat) (hm : m ≤ n) : RdR w A m (rows.take m) := by
  refine ⟨by rw [List.length_take, h.1]; omega, fun hp => ?_⟩
  obtain ⟨b, off, e, hc⟩ := h.2 (by omega)
  refine ⟨b, off, e, fun k x hx => hc k x ?_⟩
  rw [List.getElem?_take] at hx
  split at hx
  · exact hx
  · cases hx

/-! ### boxes of parameters and locals: the world behind them gets a name -/
theorem box1 (w : World) (cs : Array Value) (t : TypeId) : ∃ wb, Hid (w.alloc (.cells cs t) = wb) ∧ Later w wb ∧ w.heap.size < wb.heap.size ∧
    (∀ i v, cs[i]? = some v → ∀ W, Later wb W → W.cell? ⟨w.heap.size, i, none⟩ = some v) ∧ (∀ i, wb.frozen? ⟨w.heap.size, i, none⟩ = false) :=
  ⟨_, rfl, (Later.refl _).alloc _, by simp, fun i v h W hW => hW.of_cell (by simpa using h), fun i => by simp⟩
theorem box2 (w : World) (cs : Array Value) (t : TypeId) (cs' : Array Value) (t' : TypeId) : ∃ wb, Hid ((w.alloc (.cells cs t)).alloc (.cells cs' t') = wb) ∧ Later w wb ∧ w.heap.size + 1 < wb.heap.size ∧
    (∀ i v, cs[i]? = some v → ∀ W, Later wb W → W.cell? ⟨w.heap.size, i, none⟩ = some v) ∧
    (∀ i v, cs'[i]? = some v → ∀ W, Later wb W → W.cell? ⟨w.heap.size + 1, i, none⟩ = some v) := by
  refine ⟨_, rfl, ((Later.refl _).alloc _).alloc _, by simp, fun i v h W hW => hW.of_cell ?_, fun i v h W hW => hW.of_cell ?_⟩
  · rw [World.cell?_alloc_past _ _ _ (by simp)]; simpa using h
  · rw [World.cell?_alloc_at _ _ _ _ (by simp)]; exact h

/-! ### lists -/
theorem take_snoc_mem {α : Type} (xs : List α) (e d : α) (k : Nat) (h : k < xs.length) : e ∈ xs.take (k + 1) ↔ e ∈ xs.take k ∨ e = xs[k]?.getD d := by
  rw [List.take_succ_eq_append_getElem h, List.mem_append, List.mem_singleton, List.getElem?_eq_getElem h, Option.getD_some]
theorem getD_mem {α : Type} {xs : List α} {d : α} {k : Nat} (h : k < xs.length) : xs[k]?.getD d ∈ xs := by
  rw [List.getElem?_eq_getElem h]; exact List.getElem_mem h
theorem ret_bool {a b : Bool} (h : a = b) : Ending.returned (.bool a) = .returned (.bool b) := by rw [h]
theorem ret_int {k : IntKind} {a b : Int} (h : a = b) : Ending.returned (.int k a) = .returned (.int k b) := by rw [h]
theorem merge_t (c : Prop) [Decidable c] (W : World) : (if c then Result.ok (Value.bool true) W else Result.ok (Value.bool false) W) = Result.ok (Value.bool (decide c)) W := by split <;> simp_all
theorem merge_f (c : Prop) [Decidable c] (W : World) : (if c then Result.ok (Value.bool false) W else Result.ok (Value.bool true) W) = Result.ok (Value.bool (!decide c)) W := by split <;> simp_all
theorem merge_a (c : Prop) [Decidable c] (x : Bool) (W : World) : (if c then Result.ok (Value.bool x) W else Result.ok (Value.bool false) W) = Result.ok (Value.bool (decide c && x)) W := by split <;> simp_all
theorem merge_o (c : Prop) [Decidable c] (x : Bool) (W : World) : (if c then Result.ok (Value.bool x) W else Result.ok (Value.bool true) W) = Result.ok (Value.bool (!decide c || x)) W := by split <;> simp_all
theorem beqd (a b : Int) : (a == b) = decide (a = b) := by rw [Bool.eq_iff_iff]; simp
theorem fst_snd_eq {a b : E2} (h1 : a.1 = b.1) (h2 : a.2 = b.2) : a = b := Prod.ext h1 h2
end Go.Proofs.Ytdheckfndldbmaa

namespace Go.Proofs.Ytdheckfndldbmaa
open Go.RowKit

section
variable {P : Program} {ops : Array Oper} {Q : Exit → Act → World → Prop} {S : World → Prop}

/-- What a carried out operation comes to: the value v, and a world that meets S. -/
def RunL (P : Program) (S : World → Prop) (v : Value) : Result Next → Prop
  | .ok (.value u) W' => u = v ∧ S W'
  | .ok .skip W' => v = undef ∧ S W'
  | .ok (.enter f args) W' => Calls P f args W' fun e W'' => e = .returned v ∧ S W''
  | _ => False

/-- In the frame a, in every world that meets S, the operation gives v (or is passed over). -/
def OpL (P : Program) (ops : Array Oper) (S : World → Prop) (o : Oper) (a : Act) (v : Value) : Prop :=
  (Region.wanted o (yielded ops a.tmps) = true ∧ ∀ W, S W → RunL P S v ((execOp a.eval o).run P W)) ∨
  (Region.wanted o (yielded ops a.tmps) = false ∧ v = undef)

theorem OpL.wpOp {i : Nat} {o : Oper} {v : Value} {a : Act} (hi : ops[i]? = some o) (h : OpL P ops S o a v) {K : Act → World → Prop} {w : World} (hS : S w)
    (hK : ∀ w', S w' → K (a.put o.dst v) w') : wpOp P ops Q i K a w := by
  unfold Go.wpOp
  simp only [hi]
  rcases h with ⟨hw, hv⟩ | ⟨hw, rfl⟩
  · simp only [hw, if_true]
    refine .inl ?_
    have hv := hv w hS
    unfold Oper.wp
    generalize (execOp a.eval o).run P w = r at *
    cases r with
    | ok n w' =>
      cases n <;> simp only [RunL] at hv <;> simp only [Oper.upon]
      case value u => obtain ⟨rfl, h2⟩ := hv; exact hK _ h2
      case skip => obtain ⟨rfl, h2⟩ := hv; exact hK _ h2
      case enter f args =>
        refine hv.mono fun e w'' he => ?_
        obtain ⟨rfl, h2⟩ := he
        exact hK _ h2
    | halt x w' => exact hv.elim
  · simp only [hw, Bool.false_eq_true, if_false]
    exact hK _ hS

/-- The text's order. -/
def SeqL (P : Program) (ops : Array Oper) (S : World → Prop) : List Oper → Act → Act → Prop
  | [], a, af => a = af
  | o :: rest, a, af => ∃ v, OpL P ops S o a v ∧ SeqL P ops S rest (a.put o.dst v) af

theorem SeqL.nil (a : Act) : SeqL P ops S [] a a := rfl
theorem SeqL.run {o : Oper} {rest : List Oper} {a af : Act} {v : Value} (hw : Region.wanted o (yielded ops a.tmps) = true) (h : ∀ W, S W → RunL P S v ((execOp a.eval o).run P W))
    (hr : SeqL P ops S rest (a.put o.dst v) af) : SeqL P ops S (o :: rest) a af := ⟨v, .inl ⟨hw, h⟩, hr⟩
/-- a value, and the world as it was -/
theorem SeqL.val {o : Oper} {rest : List Oper} {a af : Act} {v : Value} (hw : Region.wanted o (yielded ops a.tmps) = true) (h : ∀ W, S W → (execOp a.eval o).run P W = .ok (.value v) W)
    (hr : SeqL P ops S rest (a.put o.dst v) af) : SeqL P ops S (o :: rest) a af := ⟨v, .inl ⟨hw, fun W hW => by rw [h W hW]; exact ⟨rfl, hW⟩⟩, hr⟩
theorem SeqL.call {o : Oper} {rest : List Oper} {a af : Act} {v : Value} {f : FuncId} {args : Array Value} (hw : Region.wanted o (yielded ops a.tmps) = true)
    (he : ∀ W, S W → (execOp a.eval o).run P W = .ok (.enter f args) W) (h : ∀ W, S W → Calls P f args W fun e W' => e = .returned v ∧ S W')
    (hr : SeqL P ops S rest (a.put o.dst v) af) : SeqL P ops S (o :: rest) a af := ⟨v, .inl ⟨hw, fun W hW => by rw [he W hW]; exact h W hW⟩, hr⟩
theorem SeqL.skip {o : Oper} {rest : List Oper} {a af : Act} (hw : Region.wanted o (yielded ops a.tmps) = false)
    (hr : SeqL P ops S rest (a.put o.dst undef) af) : SeqL P ops S (o :: rest) a af := ⟨undef, .inr ⟨hw, rfl⟩, hr⟩

/-- What a region must be: each place that an operation looks at is written by nobody in the region, or by one whom it waits for; no two write one place; whoever is waited for stands ahead. -/
def okL (ops : Array Oper) : Bool :=
  (List.range ops.size).all fun i => match ops[i]? with
    | none => true
    | some o =>
      (match o.op with | .select .. => false | _ => true) &&
      (o.after.all fun e => !Region.binds .any e || decide (e.on < i)) &&
      (List.range ops.size).all fun j => match ops[j]? with
        | none => true
        | some oj => match oj.dst with
          | none => true
          | some d => (decide (j = i) || o.dst != some d) && (!(o.looksAt ops).contains d || o.after.any fun e => Region.binds .any e && e.on == j)

structure OkL (ops : Array Oper) : Prop where
  sel : ∀ (i : Nat) (o : Oper), ops[i]? = some o → ∀ cs b, o.op ≠ Op.select cs b
  ahead : ∀ (i : Nat) (o : Oper), ops[i]? = some o → ∀ e ∈ o.after, Region.binds .any e = true → e.on < i
  one : ∀ (i : Nat) (o : Oper) (j : Nat) (oj : Oper) (d : Tmp), ops[i]? = some o → ops[j]? = some oj → o.dst = some d → oj.dst = some d → j = i
  look : ∀ (i : Nat) (o : Oper) (j : Nat) (oj : Oper) (d : Tmp), ops[i]? = some o → ops[j]? = some oj → oj.dst = some d → d ∈ o.looksAt ops → ∃ e ∈ o.after, Region.binds .any e = true ∧ e.on = j

theorem okL_spec (h : okL ops = true) : OkL ops := by
  have key := fun (i : Nat) (o : Oper) (ho : ops[i]? = some o) => by
    have hi : i < ops.size := (Array.getElem?_eq_some_iff.1 ho).1
    have := List.all_eq_true.1 h i (List.mem_range.2 hi)
    simp only [ho, Bool.and_eq_true] at this
    exact this
  refine ⟨fun i o ho cs b hs => ?_, fun i o ho e he hb => ?_, fun i o j oj d ho hj h1 h2 => ?_, fun i o j oj d ho hj h1 h2 => ?_⟩
  · have := (key i o ho).1.1
    rw [hs] at this
    simp at this
  · have := Array.all_eq_true_iff_forall_mem.1 (key i o ho).1.2 e he
    simpa [hb] using this
  · have hjs : j < ops.size := (Array.getElem?_eq_some_iff.1 hj).1
    have := List.all_eq_true.1 (key i o ho).2 j (List.mem_range.2 hjs)
    simp only [hj, h2, h1, Bool.and_eq_true, Bool.or_eq_true, decide_eq_true_eq] at this
    rcases this.1 with h | h
    · exact h
    · simp at h
  · have hjs : j < ops.size := (Array.getElem?_eq_some_iff.1 hj).1
    have := List.all_eq_true.1 (key i o ho).2 j (List.mem_range.2 hjs)
    simp only [hj, h1, Bool.and_eq_true, Bool.or_eq_true] at this
    rcases this.2 with h | h
    · simp [h2] at h
    · rw [Array.any_eq_true] at h
      obtain ⟨q, hq, hh⟩ := h
      simp only [Bool.and_eq_true, beq_iff_eq] at hh
      exact ⟨_, Array.getElem_mem hq, hh.1, hh.2⟩

/-- The frame when the operations of D have come up: what they write is written; all else as it was. -/
structure At (ops : Array Oper) (vals : Nat → Value) (a0 : Act) (D : Nat → Prop) (a : Act) : Prop where
  size : a.tmps.size = a0.tmps.size
  defers : a.defers = a0.defers
  did : ∀ (i : Nat) (o : Oper) (d : Tmp), ops[i]? = some o → o.dst = some d → D i → a.tmps[d]? = (a0.tmps.setIfInBounds d (vals i))[d]?
  not : ∀ d : Tmp, (∀ (i : Nat) (o : Oper), ops[i]? = some o → o.dst = some d → ¬ D i) → a.tmps[d]? = a0.tmps[d]?

theorem At.start (vals : Nat → Value) (a0 : Act) : At ops vals a0 (fun _ => False) a0 := ⟨rfl, rfl, fun _ _ _ _ _ h => h.elim, fun _ _ => rfl⟩
theorem At.put {vals : Nat → Value} {a0 : Act} {D : Nat → Prop} {a : Act} (hk : OkL ops) (h : At ops vals a0 D a) {i : Nat} {o : Oper} (ho : ops[i]? = some o) :
    At ops vals a0 (fun j => D j ∨ j = i) (a.put o.dst (vals i)) := by
  cases hd : o.dst with
  | none =>
    refine ⟨h.size, h.defers, fun j oj d hj hdj hD => ?_, fun d hn => ?_⟩
    · rcases hD with hD | rfl
      · exact h.did j oj d hj hdj hD
      · rw [ho] at hj; cases hj; rw [hd] at hdj; cases hdj
    · exact h.not d fun j oj hj hdj hD => hn j oj hj hdj (.inl hD)
  | some t =>
    refine ⟨by simp [Act.put, h.size], h.defers, fun j oj d hj hdj hD => ?_, fun d hn => ?_⟩
    · by_cases hji : j = i
      · subst hji
        rw [ho] at hj; cases hj; rw [hd] at hdj; cases hdj
        simp [Act.put, Array.getElem?_setIfInBounds, h.size]
      · have hne : t ≠ d := fun e => hji (by subst e; exact hk.one i o j oj t ho hj hd hdj)
        simp only [Act.put, Array.getElem?_setIfInBounds_ne hne]
        exact h.did j oj d hj hdj (hD.resolve_right hji)
    · have hne : t ≠ d := fun e => hn i o ho (by rw [hd, e]) (.inr rfl)
      simp only [Act.put, Array.getElem?_setIfInBounds_ne hne]
      exact h.not d fun j oj hj hdj hD => hn j oj hj hdj (.inl hD)
/-- Two frames in which all that an operation waits for has come up look alike to it. -/
theorem At.same {vals : Nat → Value} {a0 : Act} {D D' : Nat → Prop} {a a' : Act} (hk : OkL ops) (h : At ops vals a0 D a) (h' : At ops vals a0 D' a') {i : Nat} {o : Oper} (ho : ops[i]? = some o)
    (hD : ∀ e ∈ o.after, Region.binds .any e = true → D e.on) (hD' : ∀ e ∈ o.after, Region.binds .any e = true → D' e.on) (d : Tmp) (hl : d ∈ o.looksAt ops) : a.tmps[d]? = a'.tmps[d]? := by
  by_cases hex : ∃ (j : Nat) (oj : Oper), ops[j]? = some oj ∧ oj.dst = some d
  · obtain ⟨j, oj, hj, hdj⟩ := hex
    obtain ⟨e, he, hb, rfl⟩ := hk.look i o j oj d ho hj hdj hl
    rw [h.did _ oj d hj hdj (hD e he hb), h'.did _ oj d hj hdj (hD' e he hb)]
  · rw [h.not d fun j oj hj hdj _ => hex ⟨j, oj, hj, hdj⟩, h'.not d fun j oj hj hdj _ => hex ⟨j, oj, hj, hdj⟩]
theorem At.opL {vals : Nat → Value} {a0 : Act} {D D' : Nat → Prop} {a a' : Act} (hk : OkL ops) (h : At ops vals a0 D a) (h' : At ops vals a0 D' a') {i : Nat} {o : Oper} (ho : ops[i]? = some o)
    (hD : ∀ e ∈ o.after, Region.binds .any e = true → D e.on) (hD' : ∀ e ∈ o.after, Region.binds .any e = true → D' e.on) {v : Value} (hv : OpL P ops S o a v) : OpL P ops S o a' v := by
  have hs := At.same hk h h' ho hD hD'
  have he : execOp a.eval o = execOp a'.eval o := execOp_congr o (hk.sel i o ho) fun x hx => by
    cases x with
    | tmp t =>
      have := hs t (List.mem_append_left _ (List.mem_filterMap.2 ⟨.tmp t, by simpa using hx, rfl⟩))
      simp only [Act.eval, Array.getD_eq_getD_getElem?, this]
    | _ => rfl
  have hw : Region.wanted o (yielded ops a.tmps) = Region.wanted o (yielded ops a'.tmps) := by
    unfold Region.wanted
    cases hg : o.guard with
    | none => rfl
    | some gw =>
      obtain ⟨g, want⟩ := gw
      have hy : yielded ops a.tmps g = yielded ops a'.tmps g := by
        unfold yielded
        cases ht : (ops[g]?).bind (·.dst) with
        | none => rfl
        | some t =>
          have := hs t (by simp [Oper.looksAt, hg, ht])
          simp [this]
      simp only [hy]
  unfold OpL at *
  rw [← he, ← hw]
  exact hv
theorem At.full {vals : Nat → Value} {a0 : Act} {D D' : Nat → Prop} {a a' : Act} (h : At ops vals a0 D a) (h' : At ops vals a0 D' a')
    (hD : ∀ i, i < ops.size → D i) (hD' : ∀ i, i < ops.size → D' i) : a = a' := by
  obtain ⟨t, d⟩ := a
  obtain ⟨t', d'⟩ := a'
  have h1 : t = t' := by
    apply Array.ext_getElem?
    intro x
    by_cases hex : ∃ (j : Nat) (oj : Oper), ops[j]? = some oj ∧ oj.dst = some x
    · obtain ⟨j, oj, hj, hdj⟩ := hex
      have hjs : j < ops.size := (Array.getElem?_eq_some_iff.1 hj).1
      have e1 := h.did j oj x hj hdj (hD j hjs)
      have e2 := h'.did j oj x hj hdj (hD' j hjs)
      simp only at e1 e2
      rw [e1, e2]
    · have e1 := h.not x fun j oj hj hdj _ => hex ⟨j, oj, hj, hdj⟩
      have e2 := h'.not x fun j oj hj hdj _ => hex ⟨j, oj, hj, hdj⟩
      simp only at e1 e2
      rw [e1, e2]
  have h2 : d = d' := h.defers.trans h'.defers.symm
  rw [h1, h2]

/-- The text's order gives each operation its value, in a frame in which those ahead of it have come up. -/
theorem SeqL.vals (hk : OkL ops) : ∀ (rest : List Oper) (k : Nat) (a af : Act), (∀ j, rest[j]? = ops[k + j]?) → SeqL P ops S rest a af → ∀ (vals : Nat → Value) (a0 : Act), At ops vals a0 (fun i => i < k) a →
    ∃ vals' : Nat → Value, (∀ i, i < k → vals' i = vals i) ∧ At ops vals' a0 (fun i => i < k + rest.length) af ∧
      ∀ (i : Nat) (o : Oper), ops[i]? = some o → k ≤ i → ∃ b, At ops vals' a0 (fun j => j < i) b ∧ OpL P ops S o b (vals' i)
  | [], k, a, af, hl, h, vals, a0, hA => by
    obtain rfl : a = af := h
    refine ⟨vals, fun _ _ => rfl, by simpa using hA, fun i o ho hki => ?_⟩
    have := hl (i - k)
    rw [show k + (i - k) = i by omega, ho] at this
    simp at this
  | o :: rest, k, a, af, hl, h, vals, a0, hA => by
    obtain ⟨v, hv, hr⟩ := h
    have hok : ops[k]? = some o := by have := hl 0; simpa using this.symm
    let vals1 : Nat → Value := fun i => if i = k then v else vals i
    have hA1 : At ops vals1 a0 (fun i => i < k) a := ⟨hA.size, hA.defers, fun i oi d hi hd hD => by
      have hne : i ≠ k := by omega
      simp only [vals1, if_neg hne]; exact hA.did i oi d hi hd hD, hA.not⟩
    have hA2 : At ops vals1 a0 (fun i => i < k + 1) (a.put o.dst v) := by
      have h2 := hA1.put hk hok
      have hv1 : vals1 k = v := by simp [vals1]
      rw [hv1] at h2
      refine ⟨h2.size, h2.defers, fun i oi d hi hd hD => h2.did i oi d hi hd (by omega), fun d hn => h2.not d fun i oi hi hd hD => hn i oi hi hd (by omega)⟩
    obtain ⟨vals', h1, h2, h3⟩ := SeqL.vals hk rest (k + 1) (a.put o.dst v) af (fun j => by have := hl (j + 1); rw [show k + 1 + j = k + (j + 1) by omega, ← this]; rfl) hr vals1 a0 hA2
    have hvk : vals' k = v := by rw [h1 k (by omega)]; simp [vals1]
    refine ⟨vals', fun i hi => by rw [h1 i (by omega)]; simp [vals1]; omega, by rw [show k + (o :: rest).length = k + 1 + rest.length by simp; omega]; exact h2, fun i oi hi hki => ?_⟩
    by_cases hik : i = k
    · subst hik
      rw [hok] at hi; cases hi
      refine ⟨a, ⟨hA1.size, hA1.defers, fun j oj d hj hd hD => ?_, hA1.not⟩, by rw [hvk]; exact hv⟩
      rw [h1 j (by omega)]
      exact hA1.did j oj d hj hd hD
    · exact h3 i oi hi (by omega)

def leftL (listed : Array Bool) : Nat := ((List.range listed.size).filter fun i => !listed.getD i true).length
theorem leftL_set (listed : Array Bool) (i : Nat) (h : listed.getD i true = false) : leftL (listed.setIfInBounds i true) < leftL listed := by
  unfold leftL
  rw [Array.size_setIfInBounds]
  have hi : i < listed.size := by
    rcases Nat.lt_or_ge i listed.size with h' | h'
    · exact h'
    · simp [Array.getElem?_eq_none h'] at h
  have hsub : ((List.range listed.size).filter fun j => !(listed.setIfInBounds i true).getD j true) = ((List.range listed.size).filter fun j => !listed.getD j true).filter fun j => j != i := by
    rw [List.filter_filter]
    apply List.filter_congr
    intro j hj
    by_cases hji : j = i
    · subst hji; simp [hi]
    · rw [getD_set_ne true (Ne.symm hji)]; simp [hji]
  rw [hsub]
  clear hsub
  have hmem : i ∈ (List.range listed.size).filter fun j => !listed.getD j true := List.mem_filter.2 ⟨List.mem_range.2 hi, by simp only [h, Bool.not_false]⟩
  generalize (List.range listed.size).filter (fun j => !listed.getD j true) = l at *
  induction l with
  | nil => cases hmem
  | cons x l ih =>
    by_cases hx : x = i
    · subst hx
      have := List.length_filter_le (fun j => j != x) l
      simp; omega
    · have hm : i ∈ l := by
        rcases List.mem_cons.1 hmem with h | h
        · exact absurd h.symm hx
        · exact h
      have := ih hm
      simp [hx] at this ⊢
      omega

theorem wpAny_of_At (hk : OkL ops) {vals : Nat → Value} {a0 af : Act} (hf : At ops vals a0 (fun i => i < ops.size) af)
    (hv : ∀ (i : Nat) (o : Oper), ops[i]? = some o → ∃ b, At ops vals a0 (fun j => j < i) b ∧ OpL P ops S o b (vals i)) (hQ : ∀ w, S w → Q .normal af w) :
    ∀ (fuel : Nat) (listed : Array Bool) (a : Act) (w : World), listed.size = ops.size → leftL listed ≤ fuel → At ops vals a0 (fun i => listed.getD i false = true) a → S w → wpAny P .any ops Q fuel listed a w := by
  have done : ∀ (listed : Array Bool) (a : Act), listed.size = ops.size → At ops vals a0 (fun i => listed.getD i false = true) a → Region.ready .any ops listed = [] → a = af := by
    intro listed a hsz hA hr
    refine hA.full hf (fun i hi => ?_) (fun i hi => hi)
    induction i using Nat.strongRecOn with
    | _ i ih =>
      cases hc : listed.getD i false with
      | true => rfl
      | false =>
        exfalso
        have hmem : i ∈ Region.ready .any ops listed := mem_ready.2 ⟨by
          have : i < listed.size := by omega
          simp [this] at hc ⊢; exact hc, ops[i], by simp [hi], fun e he hb => by
            have hlt := hk.ahead i ops[i] (by simp [hi]) e he hb
            exact ih e.on hlt (by omega)⟩
        rw [hr] at hmem
        cases hmem
  have step : ∀ (listed : Array Bool) (a : Act) (w : World) (K : Act → World → Prop) (i : Nat), listed.size = ops.size → At ops vals a0 (fun i => listed.getD i false = true) a → S w → i ∈ Region.ready .any ops listed →
      (∀ o, ops[i]? = some o → At ops vals a0 (fun j => (listed.setIfInBounds i true).getD j false = true) (a.put o.dst (vals i)) → ∀ w', S w' → K (a.put o.dst (vals i)) w') → wpOp P ops Q i K a w := by
    intro listed a w K i hsz hA hS hi hK
    obtain ⟨hun, o, ho, hall⟩ := mem_ready.1 hi
    obtain ⟨b, hb, hop⟩ := hv i o ho
    have hop' : OpL P ops S o a (vals i) := hb.opL hk hA ho (fun e he hbd => hk.ahead i o ho e he hbd) hall hop
    refine hop'.wpOp ho hS (hK o ho ?_)
    have h2 := hA.put hk ho
    have hlt : i < listed.size := by have := (Array.getElem?_eq_some_iff.1 ho).1; omega
    have heq : ∀ j, (listed.setIfInBounds i true).getD j false = true ↔ (listed.getD j false = true ∨ j = i) := fun j => by
      by_cases hji : j = i
      · subst hji; simp [hlt]
      · rw [getD_set_ne false (Ne.symm hji)]; simp [hji]
    refine ⟨h2.size, h2.defers, fun j oj d hj hd hD => h2.did j oj d hj hd ((heq j).1 hD), fun d hn => h2.not d fun j oj hj hd hD => hn j oj hj hd ((heq j).2 hD)⟩
  intro fuel
  induction fuel with
  | zero =>
    intro listed a w hsz hl hA hS
    have hr : Region.ready .any ops listed = [] := by
      refine List.eq_nil_iff_forall_not_mem.2 fun i hi => ?_
      have := leftL_set listed i (mem_ready.1 hi).1
      omega
    exact ⟨hr, done listed a hsz hA hr ▸ hQ w hS⟩
  | succ fuel ih =>
    intro listed a w hsz hl hA hS
    refine ⟨fun hr => done listed a hsz hA hr ▸ hQ w hS, fun i hi => ?_⟩
    refine step listed a w _ i hsz hA hS hi fun o ho hA' w' hS' => ?_
    refine ih (listed.setIfInBounds i true) _ w' (by simp [hsz]) ?_ hA' hS'
    have := leftL_set listed i (mem_ready.1 hi).1
    omega

/-- **THE REGION**: walk it once, in the text's order. -/
theorem region_draw {id : Nat} {l : List Oper} {a af : Act} {w : World} (hm : P.follows .mixedOrders = true) (hk : okL l.toArray = true) (hd : ∀ w, S w → S w.drew) (hw : S w)
    (h : SeqL P l.toArray S l a af) (hQ : ∀ w', S w' → Q .normal af w') : (Code.region id l.toArray true).wp P Q a w := by
  have hk := okL_spec hk
  obtain ⟨vals, _, h2, h3⟩ := SeqL.vals hk l 0 a af (fun j => by simp) h (fun _ => undef) a ⟨rfl, rfl, fun _ _ _ _ _ h => by omega, fun _ _ => rfl⟩
  refine wp_region_any hm ?_
  refine wpAny_of_At hk (by simpa using h2) (fun i o ho => h3 i o ho (Nat.zero_le _)) hQ _ _ a _ (by simp) ?_ ?_ (hd w hw)
  · unfold leftL
    refine Nat.le_trans (List.length_filter_le _ _) (by simp)
  · refine ⟨rfl, rfl, fun i o d hi hd' hD => ?_, fun _ _ => rfl⟩
    have hi' : i < l.toArray.size := (Array.getElem?_eq_some_iff.1 hi).1
    simp at hi' hD
    simp [hi'] at hD
/-- A region that does not draw, walked by the same words. -/
theorem seqL_wpOps {l : List Oper} {af : Act} (hQ : ∀ w', S w' → Q .normal af w') : ∀ (rest : List Oper) (a : Act) (w : World), SeqL P l.toArray S rest a af → S w → wpList P l.toArray Q rest a w
  | [], a, w, h, hw => by obtain rfl : a = af := h; exact hQ w hw
  | o :: rest, a, w, h, hw => by
    obtain ⟨v, hv, hr⟩ := h
    have ih := fun w' hw' => seqL_wpOps hQ rest (a.put o.dst v) w' hr hw'
    unfold wpList
    rcases hv with ⟨hwt, hv⟩ | ⟨hwt, rfl⟩
    · rw [if_pos hwt]
      refine .inl ?_
      have hv := hv w hw
      unfold Oper.wp
      generalize (execOp a.eval o).run P w = r at *
      cases r with
      | ok n w' =>
        cases n <;> simp only [RunL] at hv <;> simp only [Oper.upon]
        case value u => obtain ⟨rfl, h2⟩ := hv; exact ih _ h2
        case skip => obtain ⟨rfl, h2⟩ := hv; exact ih _ h2
        case enter f args =>
          refine hv.mono fun e w'' he => ?_
          obtain ⟨rfl, h2⟩ := he
          exact ih _ h2
      | halt x w' => exact hv.elim
    · rw [if_neg (by simp [hwt])]
      exact ih _ hw
theorem region_plain {id : Nat} {l : List Oper} {a af : Act} {w : World} (hw : S w) (h : SeqL P l.toArray S l a af) (hQ : ∀ w', S w' → Q .normal af w') : (Code.region id l.toArray false).wp P Q a w :=
  wp_region_list (seqL_wpOps hQ l a w h hw)
end
end Go.Proofs.Ytdheckfndldbmaa

namespace Go.Proofs.Ytdheckfndldbmaa
open Go.RowKit

def entryOk (e : E2) : Bool := decide (0 ≤ e.1) && (decide (e.1 < 128) && decide (e.2 ≤ 1099511627775))
def slabOk (s : E2) : Bool := decide (0 ≤ s.1) && (decide (s.1 ≤ 2) && decide (s.2 ≤ 1099511627775))
def meantD (xs : List E2) (e : E2) : Bool := decide (0 ≤ e.1) && (decide (e.1 < xs.length) && decide ((xs[e.1.toNat]?.getD (0, 0)).2 = e.2))

set_option maxHeartbeats 400000 in
theorem mentry_c (s g : Int) (w : World) : Calls Try.prog 44 #[.agg #[.int .i64 s, .int .u64 g]] w fun r w' => r = .returned (.bool (entryOk (s, g))) ∧ Later w w' := by
  go_enter Try.func44, Try.ntmps44
  go_wp2
  all_goals
    go_ret
    exact ⟨ret_bool (by simp_all [entryOk] <;> omega), (Later.refl _).alloc _⟩
set_option maxHeartbeats 400000 in
theorem rentry_c (s g : Int) (w : World) : Calls Try.prog 52 #[.agg #[.int .i64 s, .int .u64 g]] w fun r w' => r = .returned (.bool (entryOk (s, g))) ∧ Later w w' := by
  go_enter Try.func52, Try.ntmps52
  go_wp2
  all_goals
    go_ret
    exact ⟨ret_bool (by simp_all [entryOk] <;> omega), (Later.refl _).alloc _⟩
set_option maxHeartbeats 400000 in
theorem slabOk_c (s g : Int) (w : World) : Calls Try.prog 60 #[.agg #[.int .i64 s, .int .u64 g]] w fun r w' => r = .returned (.bool (slabOk (s, g))) ∧ Later w w' := by
  go_enter Try.func60, Try.ntmps60
  go_wp2
  all_goals
    go_ret
    exact ⟨ret_bool (by simp_all [slabOk] <;> omega), (Later.refl _).alloc _⟩
set_option maxHeartbeats 400000 in
theorem many_c (n : Int) (w : World) : Calls Try.prog 9 #[.int .i64 n] w fun r w' => r = .returned (.bool (decide (2 ≤ n) && decide (n ≤ 128))) ∧ w = w' := by
  go_enter Try.func9, Try.ntmps9
  go_wp2
  all_goals
    go_ret
    exact ⟨ret_bool (by simp_all <;> omega), rfl⟩
end Go.Proofs.Ytdheckfndldbmaa

namespace Go.Proofs.Ytdheckfndldbmaa
open Go.RowKit

/-- the panic of an error's number -/
def errChain (e : Int) : List PanicEntry := [{ v := .iface 33 (.int .i64 e), recovered := false }]

set_option maxHeartbeats 400000 in
theorem mneed_yes (e : Int) (w : World) : Calls Try.prog 64 #[.bool true, .int .i64 e] w fun r w' => r = .returned (.tuple #[]) ∧ w = w' := by
  go_enter Try.func64, Try.ntmps64
  go_wp2
  go_end0
  exact ⟨rfl, rfl⟩
set_option maxHeartbeats 400000 in
theorem mneed_no (e : Int) (w : World) : Calls Try.prog 64 #[.bool false, .int .i64 e] w fun r w' => r = .panicked (errChain e) ∧ w = w' := by
  go_enter Try.func64, Try.ntmps64
  go_wp2
  exact ⟨rfl, rfl, rfl⟩
set_option maxHeartbeats 400000 in
theorem aneed_yes (e : Int) (w : World) : Calls Try.prog 89 #[.bool true, .int .i64 e] w fun r w' => r = .returned (.tuple #[]) ∧ w = w' := by
  go_enter Try.func89, Try.ntmps89
  go_wp2
  go_end0
  exact ⟨rfl, rfl⟩
set_option maxHeartbeats 400000 in
theorem aneed_no (e : Int) (w : World) : Calls Try.prog 89 #[.bool false, .int .i64 e] w fun r w' => r = .panicked (errChain e) ∧ w = w' := by
  go_enter Try.func89, Try.ntmps89
  go_wp2
  exact ⟨rfl, rfl, rfl⟩

set_option maxHeartbeats 400000 in
theorem has_c (A : Option Addr) (n cap : Nat) (xs : List E2) (s g : Int) (w : World) (hm : n ≤ 9223372036854775807) (hR : Rd 2 encE w A n xs) :
    Calls Try.prog 58 #[.slice A n cap, .agg #[.int .i64 s, .int .u64 g]] w fun r w' => r = .returned (.bool (decide ((s, g) ∈ xs))) ∧ Later w w' := by
  have HR : Hid (Rd 2 encE w A n xs) := hR
  clear hR
  go_enter Try.func58, Try.ntmps58
  go_wp2
  go_loopw [9] (fun i wr => ∃ k : Nat, k ≤ n ∧ i = .int .i64 k ∧ (s, g) ∉ xs.take k ∧ Later w wr ∧ wr.cell? ⟨w.heap.size, 0, none⟩ = some (.int .i64 s) ∧ wr.cell? ⟨w.heap.size, 1, none⟩ = some (.int .u64 g)) (fun i _ => n - (intOf i).toNat)
  case atStart =>
    exact ⟨0, Nat.zero_le _, rfl, by simp, (Later.refl _).alloc _, by simp, by simp⟩
  case round =>
    obtain ⟨k, hk, rfl, hne, hB, g0, g1⟩ := hrel
    have Hlen : Hid (xs.length = n) := HR.out.1
    have Hne : Hid ((s, g) ∉ xs.take k) := hne
    have hsz : w.heap.size < wr.heap.size := World.block_lt_of_cell? wr _ g0
    clear hne
    by_cases hlt : k < n
    · obtain ⟨b, off, rfl, d0, d1⟩ := HR.out.atE k hlt
      go_wp2
      · go_ret
        exact ⟨ret_bool (by symm; rw [decide_eq_true_iff]; have := getD_mem (xs := xs) (d := (0, 0)) (k := k) (by rw [Hlen.out]; exact hlt); have e : xs[k]?.getD (0, 0) = (s, g) := fst_snd_eq (by assumption) (by assumption); rwa [e] at this), hB.alloc _⟩
      all_goals
        go_roundw
        case rel => exact ⟨k + 1, by omega, by go_num, by rw [take_snoc_mem xs _ (0, 0) k (by rw [Hlen.out]; exact hlt)]; rintro (h | h); exact Hne.out h; simp_all [Prod.ext_iff], hB.alloc _, by simp [go_sem, hsz, g0], by simp [go_sem, hsz, g1]⟩
        case measure => simp [intOf]; omega
    · go_wp2
      go_ret
      have e : xs.take k = xs := List.take_of_length_le (by rw [Hlen.out]; omega)
      exact ⟨ret_bool (by have := Hne.out; rw [e] at this; simp [this]), hB⟩
end Go.Proofs.Ytdheckfndldbmaa

namespace Go.Proofs.Ytdheckfndldbmaa
open Go.RowKit

set_option maxHeartbeats 400000 in
theorem meant_c (A : Option Addr) (n cap : Nat) (xs : List E2) (s g : Int) (w : World) (hm : n ≤ 9223372036854775807) (hR : Rd 2 encE w A n xs) :
    Calls Try.prog 35 #[.agg #[.slice A n cap], .agg #[.int .i64 s, .int .u64 g]] w fun r w' => r = .returned (.bool (meantD xs (s, g))) ∧ Later w w' := by
  have Hlen : Hid (xs.length = n) := hR.1
  obtain ⟨wb, hwb, hL, hz, f1, f2⟩ := box2 w #[.slice A n cap] 27 #[.int .i64 s, .int .u64 g] 43
  have a0 := f1 0 (.slice A n cap) rfl
  have b0 := f2 0 (.int .i64 s) rfl
  have b1 := f2 1 (.int .u64 g) rfl
  clear f1 f2
  have HR : Hid (Rd 2 encE wb A n xs) := hR.later hL
  clear hR
  by_cases h0 : 0 ≤ s
  · by_cases h1 : s < n
    · obtain ⟨k, rfl⟩ := Int.eq_ofNat_of_zero_le h0
      have hk : k < n := by omega
      obtain ⟨b, off, rfl, d0, d1⟩ := HR.out.atE k hk
      clear d0
      go_enter Try.func35, Try.ntmps35
      go_wp2
      rw [hwb.out]
      refine region_draw (S := Later wb) (af := ?_) (by kernel_rfl) (by kernel_rfl) (fun _ h => h.drew) (Later.refl _) ?_ ?_
      rotate_left
      · repeat (first
          | (refine SeqL.val (v := ?_) (by rfl) (fun W hW => ?_) ?_; rotate_left; (· (go_simp; try with_reducible rfl)); try simp only [Act.put, List.setIfInBounds_toArray, List.set_cons_zero, List.set_cons_succ])
          | (refine SeqL.skip (by rfl) ?_; try simp only [Act.put, List.setIfInBounds_toArray, List.set_cons_zero, List.set_cons_succ])
          )
        exact SeqL.nil _
      intro w1 hL1
      go_wp2
      go_ret
      exact ⟨ret_bool (by have := Hlen.out; simp [meantD, this, hk, beqd]), hL.trans hL1⟩
    · have hd : decide (0 ≤ s) = true := by simpa using h0
      have hd1 : decide (s < n) = false := by simpa using h1
      go_enter Try.func35, Try.ntmps35
      go_wp2
      rw [hwb.out]
      refine region_draw (S := Later wb) (af := ?_) (by kernel_rfl) (by kernel_rfl) (fun _ h => h.drew) (Later.refl _) ?_ ?_
      rotate_left
      · repeat (first
          | (refine SeqL.val (v := ?_) (by rfl) (fun W hW => ?_) ?_; rotate_left; (· (go_simp; try with_reducible rfl)); try simp only [Act.put, List.setIfInBounds_toArray, List.set_cons_zero, List.set_cons_succ])
          | (refine SeqL.skip (by rfl) ?_; try simp only [Act.put, List.setIfInBounds_toArray, List.set_cons_zero, List.set_cons_succ])
          )
        exact SeqL.nil _
      intro w1 hL1
      go_wp2
      go_ret
      exact ⟨ret_bool (by have := Hlen.out; simp [meantD, this]; omega), hL.trans hL1⟩
  · have hd : decide (0 ≤ s) = false := by simpa using h0
    go_enter Try.func35, Try.ntmps35
    go_wp2
    rw [hwb.out]
    refine region_draw (S := Later wb) (af := ?_) (by kernel_rfl) (by kernel_rfl) (fun _ h => h.drew) (Later.refl _) ?_ ?_
    rotate_left
    · repeat (first
        | (refine SeqL.val (v := ?_) (by rfl) (fun W hW => ?_) ?_; rotate_left; (· (go_simp; try with_reducible rfl)); try simp only [Act.put, List.setIfInBounds_toArray, List.set_cons_zero, List.set_cons_succ])
        | (refine SeqL.skip (by rfl) ?_; try simp only [Act.put, List.setIfInBounds_toArray, List.set_cons_zero, List.set_cons_succ])
        )
      exact SeqL.nil _
    intro w1 hL1
    go_wp2
    go_ret
    exact ⟨ret_bool (by simp [meantD, hd]), hL.trans hL1⟩
set_option maxHeartbeats 400000 in
theorem rmeant_c (A : Option Addr) (n cap : Nat) (xs : List E2) (s g : Int) (w : World) (hm : n ≤ 9223372036854775807) (hR : Rd 2 encE w A n xs) :
    Calls Try.prog 78 #[.agg #[.slice A n cap], .agg #[.int .i64 s, .int .u64 g]] w fun r w' => r = .returned (.bool (meantD xs (s, g))) ∧ Later w w' := by
  have Hlen : Hid (xs.length = n) := hR.1
  obtain ⟨wb, hwb, hL, hz, f1, f2⟩ := box2 w #[.slice A n cap] 27 #[.int .i64 s, .int .u64 g] 43
  have a0 := f1 0 (.slice A n cap) rfl
  have b0 := f2 0 (.int .i64 s) rfl
  have b1 := f2 1 (.int .u64 g) rfl
  clear f1 f2
  have HR : Hid (Rd 2 encE wb A n xs) := hR.later hL
  clear hR
  by_cases h0 : 0 ≤ s
  · by_cases h1 : s < n
    · obtain ⟨k, rfl⟩ := Int.eq_ofNat_of_zero_le h0
      have hk : k < n := by omega
      obtain ⟨b, off, rfl, d0, d1⟩ := HR.out.atE k hk
      clear d0
      go_enter Try.func78, Try.ntmps78
      go_wp2
      rw [hwb.out]
      refine region_draw (S := Later wb) (af := ?_) (by kernel_rfl) (by kernel_rfl) (fun _ h => h.drew) (Later.refl _) ?_ ?_
      rotate_left
      · repeat (first
          | (refine SeqL.val (v := ?_) (by rfl) (fun W hW => ?_) ?_; rotate_left; (· (go_simp; try with_reducible rfl)); try simp only [Act.put, List.setIfInBounds_toArray, List.set_cons_zero, List.set_cons_succ])
          | (refine SeqL.skip (by rfl) ?_; try simp only [Act.put, List.setIfInBounds_toArray, List.set_cons_zero, List.set_cons_succ])
          )
        exact SeqL.nil _
      intro w1 hL1
      go_wp2
      go_ret
      exact ⟨ret_bool (by have := Hlen.out; simp [meantD, this, hk, beqd]), hL.trans hL1⟩
    · have hd : decide (0 ≤ s) = true := by simpa using h0
      have hd1 : decide (s < n) = false := by simpa using h1
      go_enter Try.func78, Try.ntmps78
      go_wp2
      rw [hwb.out]
      refine region_draw (S := Later wb) (af := ?_) (by kernel_rfl) (by kernel_rfl) (fun _ h => h.drew) (Later.refl _) ?_ ?_
      rotate_left
      · repeat (first
          | (refine SeqL.val (v := ?_) (by rfl) (fun W hW => ?_) ?_; rotate_left; (· (go_simp; try with_reducible rfl)); try simp only [Act.put, List.setIfInBounds_toArray, List.set_cons_zero, List.set_cons_succ])
          | (refine SeqL.skip (by rfl) ?_; try simp only [Act.put, List.setIfInBounds_toArray, List.set_cons_zero, List.set_cons_succ])
          )
        exact SeqL.nil _
      intro w1 hL1
      go_wp2
      go_ret
      exact ⟨ret_bool (by have := Hlen.out; simp [meantD, this]; omega), hL.trans hL1⟩
  · have hd : decide (0 ≤ s) = false := by simpa using h0
    go_enter Try.func78, Try.ntmps78
    go_wp2
    rw [hwb.out]
    refine region_draw (S := Later wb) (af := ?_) (by kernel_rfl) (by kernel_rfl) (fun _ h => h.drew) (Later.refl _) ?_ ?_
    rotate_left
    · repeat (first
        | (refine SeqL.val (v := ?_) (by rfl) (fun W hW => ?_) ?_; rotate_left; (· (go_simp; try with_reducible rfl)); try simp only [Act.put, List.setIfInBounds_toArray, List.set_cons_zero, List.set_cons_succ])
        | (refine SeqL.skip (by rfl) ?_; try simp only [Act.put, List.setIfInBounds_toArray, List.set_cons_zero, List.set_cons_succ])
        )
      exact SeqL.nil _
    intro w1 hL1
    go_wp2
    go_ret
    exact ⟨ret_bool (by simp [meantD, hd]), hL.trans hL1⟩
end Go.Proofs.Ytdheckfndldbmaa
