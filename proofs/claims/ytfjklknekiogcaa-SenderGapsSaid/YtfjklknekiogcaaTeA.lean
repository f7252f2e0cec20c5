/-
  heliographlaw14.SenderGaps: what is claimed and what is not have, together, each byte once.
  No conditions: every input that the statement lets in. Part TeA: own work.
-/
import Derived.Orders
import Derived.Below
import Derived.Laws.NewBlocks
import Derived.KernelRfl
set_option linter.unusedVariables false
set_option linter.unusedSimpArgs false
namespace Go.Te
open Go.RowKit

/-! ### 1. Typed tree values -/
/-- What one cell of data holds: a whole number, a bool, a string, or a slice whose elements have these leaves. -/
inductive Leaf where
  | int (k : IntKind)
  | bool
  | str
  | sl (es : List Leaf)

mutual
def Leaf.T : Leaf → Type
  | .int _ => Int
  | .bool => Bool
  | .str => ByteArray
  | .sl es => List (Row es)
def Row : List Leaf → Type
  | [] => Unit
  | [l] => l.T
  | l :: l' :: ls => l.T × Row (l' :: ls)
end

@[reducible] def iV {k : IntKind} (x : (Leaf.int k).T) : Int := x
@[reducible] def bV (x : Leaf.bool.T) : Bool := x
@[reducible] def sV (x : Leaf.str.T) : ByteArray := x
@[reducible] def lst {es : List Leaf} (x : (Leaf.sl es).T) : List (Row es) := x

mutual
def Leaf.same : Leaf → Leaf → Bool
  | .int k, .int k' => k == k'
  | .bool, .bool => true
  | .str, .str => true
  | .sl es, .sl es' => sameAll es es'
  | _, _ => false
def sameAll : List Leaf → List Leaf → Bool
  | [], [] => true
  | l :: ls, l' :: ls' => l.same l' && sameAll ls ls'
  | _, _ => false
end

mutual
theorem Leaf.eq_of_same : ∀ (l l' : Leaf), l.same l' = true → l = l'
  | .int k, .int k', h => by simp [Leaf.same] at h; rw [h]
  | .bool, .bool, _ => rfl
  | .str, .str, _ => rfl
  | .sl es, .sl es', h => by simp only [Leaf.same] at h; rw [eq_of_sameAll es es' h]
  | .int _, .bool, h => by simp [Leaf.same] at h
  | .int _, .str, h => by simp [Leaf.same] at h
  | .int _, .sl _, h => by simp [Leaf.same] at h
  | .bool, .int _, h => by simp [Leaf.same] at h
  | .bool, .str, h => by simp [Leaf.same] at h
  | .bool, .sl _, h => by simp [Leaf.same] at h
  | .str, .int _, h => by simp [Leaf.same] at h
  | .str, .bool, h => by simp [Leaf.same] at h
  | .str, .sl _, h => by simp [Leaf.same] at h
  | .sl _, .int _, h => by simp [Leaf.same] at h
  | .sl _, .bool, h => by simp [Leaf.same] at h
  | .sl _, .str, h => by simp [Leaf.same] at h
theorem eq_of_sameAll : ∀ (ls ls' : List Leaf), sameAll ls ls' = true → ls = ls'
  | [], [], _ => rfl
  | l :: ls, l' :: ls', h => by
    simp only [sameAll, Bool.and_eq_true] at h
    rw [Leaf.eq_of_same l l' h.1, eq_of_sameAll ls ls' h.2]
  | [], _ :: _, h => by simp [sameAll] at h
  | _ :: _, [], h => by simp [sameAll] at h
end

/-- The same datum under another leaf, if it is the same leaf. -/
def Leaf.cast (l l' : Leaf) (x : l.T) : Option l'.T := if h : l.same l' = true then some (Leaf.eq_of_same l l' h ▸ x) else none
def rowCast (es es' : List Leaf) (x : List (Row es)) : Option (List (Row es')) := if h : sameAll es es' = true then some (eq_of_sameAll es es' h ▸ x) else none

inductive TV where
  | dead
  | d (l : Leaf) (x : l.T)
  | nil
  | agg (xs : List TV)
  | tup (xs : List TV)
  | ptr (id off : Nat)
  | eptr (id k : Nat) (i : Nat) (j : Nat)
  | dptr (es : List Leaf) (x : Row es) (j : Nat)
  | arr (id : Nat) (k : Nat) (n : Nat)
  | arrF (id : Nat) (k : Nat)
  | fn (f : Nat) (caps : List TV)
  | raw (v : Value)

inductive Obj where
  | dead
  | box (cells : List TV)
  | arr (e : TypeId) (es : List Leaf) (xs : List (Row es))

/-! ### 2. What a datum is in memory. Z: blocks that it doesn't lie in -/
mutual
def RelL (w : World) (Z : Nat → Prop) : (l : Leaf) → l.T → Value → Prop
  | .int k, x, v => v = .int k x
  | .bool, x, v => v = .bool x
  | .str, x, v => v = .string x
  | .sl es, xs, v => ∃ a cap, v = .slice a (lst xs).length cap ∧ (lst xs).length ≤ cap ∧
      (lst xs ≠ [] → ∃ b off, a = some ⟨b, off, none⟩ ∧ ¬ Z b ∧ b < w.heap.size ∧ ∀ i (x : Row es), (lst xs)[i]? = some x → RelRow w Z es x b (off + i * es.length))
def RelRow (w : World) (Z : Nat → Prop) : (es : List Leaf) → Row es → (b o : Nat) → Prop
  | [], _, _, _ => True
  | [l], x, b, o => ∃ v, w.cell? ⟨b, o, none⟩ = some v ∧ RelL w Z l x v
  | l :: l' :: ls, x, b, o => (∃ v, w.cell? ⟨b, o, none⟩ = some v ∧ RelL w Z l x.1 v) ∧ RelRow w Z (l' :: ls) x.2 b (o + 1)
end

/-- What a step may have done to the world: only blocks of 'own' (or new ones) have turned. -/
structure WStep (own : Nat → Prop) (w w' : World) : Prop where
  os : w'.os = w.os
  tape : w'.tape = w.tape
  output : w'.output = w.output
  size : w.heap.size ≤ w'.heap.size
  block : ∀ b, b < w.heap.size → ¬ own b → w'.heap[b]? = w.heap[b]?
  shape : ∀ b, b < w.heap.size → w'.shape? b = w.shape? b
  frozen : ∀ b o, b < w.heap.size → w'.frozen? ⟨b, o, none⟩ = w.frozen? ⟨b, o, none⟩

theorem WStep.refl (own : Nat → Prop) (w : World) : WStep own w w := ⟨rfl, rfl, rfl, Nat.le_refl _, fun _ _ _ => rfl, fun _ _ => rfl, fun _ _ _ => rfl⟩
theorem WStep.trans {own own' : Nat → Prop} {a b c : World} (h : WStep own a b) (k : WStep own' b c) (ho : ∀ x, x < a.heap.size → own' x → own x) : WStep own a c :=
  ⟨k.os.trans h.os, k.tape.trans h.tape, k.output.trans h.output, Nat.le_trans h.size k.size,
   fun x hx hn => (k.block x (Nat.lt_of_lt_of_le hx h.size) (fun q => hn (ho x hx q))).trans (h.block x hx hn),
   fun x hx => (k.shape x (Nat.lt_of_lt_of_le hx h.size)).trans (h.shape x hx),
   fun x o hx => (k.frozen x o (Nat.lt_of_lt_of_le hx h.size)).trans (h.frozen x o hx)⟩
theorem WStep.mono {own own' : Nat → Prop} {a b : World} (h : WStep own a b) (ho : ∀ x, x < a.heap.size → own x → own' x) : WStep own' a b :=
  ⟨h.os, h.tape, h.output, h.size, fun x hx hn => h.block x hx (fun q => hn (ho x hx q)), h.shape, h.frozen⟩
theorem WStep.below {own : Nat → Prop} {a b : World} (h : WStep own a b) (ho : ∀ x, ¬ own x) : Below a.heap.size a b :=
  ⟨h.os, h.tape, h.output, h.size, fun k hk => h.block k hk (ho k)⟩
theorem WStep.cell {own : Nat → Prop} {w w' : World} (h : WStep own w w') {b o : Nat} {v : Value} (hb : ¬ own b) (hc : w.cell? ⟨b, o, none⟩ = some v) : w'.cell? ⟨b, o, none⟩ = some v := by
  have hlt : b < w.heap.size := World.block_lt_of_cell? w ⟨b, o, none⟩ hc
  rw [World.cell?_of_block (w := w) (a := ⟨b, o, none⟩) (h.block b hlt hb)]; exact hc

mutual
theorem RelL.step {w w' : World} {Z Z' own : Nat → Prop} (h : WStep own w w') (ho : ∀ b, b < w.heap.size → own b → Z b) (hz : ∀ b, b < w.heap.size → Z' b → Z b) :
    ∀ (l : Leaf) (x : l.T) (v : Value), RelL w Z l x v → RelL w' Z' l x v
  | .int _, _, _, r => by simp only [RelL] at r ⊢; exact r
  | .bool, _, _, r => by simp only [RelL] at r ⊢; exact r
  | .str, _, _, r => by simp only [RelL] at r ⊢; exact r
  | .sl es, xs, v, r => by
    simp only [RelL] at r ⊢
    obtain ⟨a, cap, hv, hc, hr⟩ := r
    refine ⟨a, cap, hv, hc, fun hne => ?_⟩
    obtain ⟨b, off, ha, hnz, hlt, hx⟩ := hr hne
    exact ⟨b, off, ha, fun q => hnz (hz b hlt q), Nat.lt_of_lt_of_le hlt h.size, fun i x hi => RelRow.step h ho hz es x b _ (fun o v _ _ hc => h.cell (fun q => hnz (ho b hlt q)) hc) (hx i x hi)⟩
theorem RelRow.step {w w' : World} {Z Z' own : Nat → Prop} (h : WStep own w w') (ho : ∀ b, b < w.heap.size → own b → Z b) (hz : ∀ b, b < w.heap.size → Z' b → Z b) :
    ∀ (es : List Leaf) (x : Row es) (b o : Nat), (∀ p v, o ≤ p → p < o + es.length → w.cell? ⟨b, p, none⟩ = some v → w'.cell? ⟨b, p, none⟩ = some v) → RelRow w Z es x b o → RelRow w' Z' es x b o
  | [], _, _, _, _, _ => trivial
  | [l], x, b, o, hb, r => by
    simp only [RelRow] at r ⊢
    obtain ⟨v, hv, hr⟩ := r
    exact ⟨v, hb _ _ (Nat.le_refl _) (by simp) hv, RelL.step h ho hz l x v hr⟩
  | l :: l' :: ls, x, b, o, hb, r => by
    simp only [RelRow] at r ⊢
    obtain ⟨⟨v, hv, hr⟩, hs⟩ := r
    exact ⟨⟨v, hb _ _ (Nat.le_refl _) (by simp) hv, RelL.step h ho hz l x.1 v hr⟩, RelRow.step h ho hz (l' :: ls) x.2 b (o + 1) (fun p v h1 h2 => hb p v (by omega) (by simp at h2 ⊢; omega)) hs⟩
end

/-! ### 3. What a tree value is. β: where each object lies; U: the ids that are in use -/
abbrev Beta := Nat → Option (Nat × Nat)

mutual
def RelT (w : World) (Z : Nat → Prop) (β : Beta) (U : Nat → Option Nat) : TV → Value → Prop
  | .dead, _ => True
  | .d l x, v => RelL w Z l x v
  | .nil, v => v = .slice none 0 0
  | .agg xs, v => ∃ vs : Array Value, v = .agg vs ∧ RelTs w Z β U xs vs.toList
  | .tup xs, v => ∃ vs : Array Value, v = .tuple vs ∧ RelTs w Z β U xs vs.toList
  | .ptr id off, v => (U id).isSome = true ∧ ∃ b o, β id = some (b, o) ∧ v = .pointer (some ⟨b, o + off, none⟩)
  | .eptr id k i j, v => (U id).isSome = true ∧ ∃ b o, β id = some (b, o) ∧ v = .pointer (some ⟨b, o + i * k + j, none⟩)
  | .dptr es x j, v => ∃ b o, ¬ Z b ∧ b < w.heap.size ∧ v = .pointer (some ⟨b, o + j, none⟩) ∧ RelRow w Z es x b o
  | .arr id k m, v => (∃ L, U id = some L ∧ m ≤ L) ∧ ((m = 0 ∧ v = .slice none 0 0 ∧ β id = none) ∨
      ∃ b cap e s, β id = some (b, 0) ∧ v = .slice (some ⟨b, 0, none⟩) m cap ∧ m ≤ cap ∧ cap ≤ maxLen ∧ w.shape? b = some (e, s) ∧ cap * k = s)
  | .arrF id k, v => ∃ L, U id = some L ∧ ((L = 0 ∧ v = .slice none 0 0 ∧ β id = none) ∨
      ∃ b cap e s, β id = some (b, 0) ∧ v = .slice (some ⟨b, 0, none⟩) L cap ∧ L ≤ cap ∧ cap ≤ maxLen ∧ w.shape? b = some (e, s) ∧ cap * k = s)
  | .fn f caps, v => ∃ cv : Array Value, v = .func (.func f) #[] cv ∧ RelTs w Z β U caps cv.toList
  | .raw u, v => v = u ∧ u.oneCell' = true
def RelTs (w : World) (Z : Nat → Prop) (β : Beta) (U : Nat → Option Nat) : List TV → List Value → Prop
  | [], vs => vs = []
  | x :: xs, vs => ∃ v vs', vs = v :: vs' ∧ RelT w Z β U x v ∧ RelTs w Z β U xs vs'
end

/-- How the places may turn: ids in use stay where they are. -/
def Beta.le (U : Nat → Option Nat) (β β' : Beta) : Prop := ∀ id, (U id).isSome = true → β' id = β id

theorem isSome_of {U U' : Nat → Option Nat} (hn : ∀ id l, U id = some l → U' id = some l) {id : Nat} (h : (U id).isSome = true) : (U' id).isSome = true := by
  obtain ⟨l, hl⟩ := Option.isSome_iff_exists.1 h
  rw [hn id l hl]; rfl
mutual
theorem RelT.step {w w' : World} {Z Z' own : Nat → Prop} {β β' : Beta} {U U' : Nat → Option Nat} (h : WStep own w w') (ho : ∀ b, b < w.heap.size → own b → Z b) (hz : ∀ b, b < w.heap.size → Z' b → Z b)
    (hβ : Beta.le U β β') (hn : ∀ id l, U id = some l → U' id = some l) : ∀ (t : TV) (v : Value), RelT w Z β U t v → RelT w' Z' β' U' t v
  | .dead, _, _ => trivial
  | .d l x, v, r => by simp only [RelT] at r ⊢; exact RelL.step h ho hz l x v r
  | .nil, _, r => r
  | .agg xs, v, r => by
    simp only [RelT] at r ⊢
    obtain ⟨vs, hv, hr⟩ := r
    exact ⟨vs, hv, RelTs.step h ho hz hβ hn xs _ hr⟩
  | .tup xs, v, r => by
    simp only [RelT] at r ⊢
    obtain ⟨vs, hv, hr⟩ := r
    exact ⟨vs, hv, RelTs.step h ho hz hβ hn xs _ hr⟩
  | .ptr id off, v, r => by
    simp only [RelT] at r ⊢
    obtain ⟨hid, b, o, hb, hv⟩ := r
    exact ⟨isSome_of hn hid, b, o, by rw [hβ id hid]; exact hb, hv⟩
  | .eptr id k i j, v, r => by
    simp only [RelT] at r ⊢
    obtain ⟨hid, b, o, hb, hv⟩ := r
    exact ⟨isSome_of hn hid, b, o, by rw [hβ id hid]; exact hb, hv⟩
  | .dptr es x j, v, r => by
    simp only [RelT] at r ⊢
    obtain ⟨b, o, hnz, hlt, hv, hr⟩ := r
    exact ⟨b, o, fun q => hnz (hz b hlt q), Nat.lt_of_lt_of_le hlt h.size, hv, RelRow.step h ho hz es x b o (fun o v _ _ hc => h.cell (fun q => hnz (ho b hlt q)) hc) hr⟩
  | .arr id k m, v, r => by
    simp only [RelT] at r ⊢
    obtain ⟨⟨L, hL, hm⟩, r⟩ := r
    have hid : (U id).isSome = true := by rw [hL]; rfl
    refine ⟨⟨L, hn _ _ hL, hm⟩, ?_⟩
    rcases r with ⟨h1, h2, h3⟩ | ⟨b, cap, e, s, hb, hv, hc, hm, hs, hl⟩
    · exact .inl ⟨h1, h2, by rw [hβ id hid]; exact h3⟩
    have hlt : b < w.heap.size := by
      simp only [World.shape?] at hs
      split at hs
      · rename_i hh; exact (Array.getElem?_eq_some_iff.1 hh).1
      · cases hs
    exact .inr ⟨b, cap, e, s, by rw [hβ id hid]; exact hb, hv, hc, hm, by rw [h.shape b hlt]; exact hs, hl⟩
  | .arrF id k, v, r => by
    simp only [RelT] at r ⊢
    obtain ⟨L, hL, r⟩ := r
    have hid : (U id).isSome = true := by rw [hL]; rfl
    refine ⟨L, hn _ _ hL, ?_⟩
    rcases r with ⟨h1, h2, h3⟩ | ⟨b, cap, e, s, hb, hv, hc, hm, hs, hl⟩
    · exact .inl ⟨h1, h2, by rw [hβ id hid]; exact h3⟩
    have hlt : b < w.heap.size := by
      simp only [World.shape?] at hs
      split at hs
      · rename_i hh; exact (Array.getElem?_eq_some_iff.1 hh).1
      · cases hs
    exact .inr ⟨b, cap, e, s, by rw [hβ id hid]; exact hb, hv, hc, hm, by rw [h.shape b hlt]; exact hs, hl⟩
  | .fn f caps, v, r => by
    simp only [RelT] at r ⊢
    obtain ⟨vs, hv, hr⟩ := r
    exact ⟨vs, hv, RelTs.step h ho hz hβ hn caps _ hr⟩
  | .raw u, _, r => r
theorem RelTs.step {w w' : World} {Z Z' own : Nat → Prop} {β β' : Beta} {U U' : Nat → Option Nat} (h : WStep own w w') (ho : ∀ b, b < w.heap.size → own b → Z b) (hz : ∀ b, b < w.heap.size → Z' b → Z b)
    (hβ : Beta.le U β β') (hn : ∀ id l, U id = some l → U' id = some l) : ∀ (ts : List TV) (vs : List Value), RelTs w Z β U ts vs → RelTs w' Z' β' U' ts vs
  | [], _, r => r
  | t :: ts, vs, r => by
    simp only [RelTs] at r ⊢
    obtain ⟨v, vs', hv, h1, h2⟩ := r
    exact ⟨v, vs', hv, RelT.step h ho hz hβ hn t v h1, RelTs.step h ho hz hβ hn ts vs' h2⟩
end

/-! ### 4. Objects, states -/
def Obj.alive : Obj → Bool
  | .dead => false
  | _ => true

structure St where
  slots : Nat → TV
  objs : Nat → Obj
  nxt : Nat
  nt : Nat
  np : Nat

/-- The blocks that the objects lie in. -/
def own (objs : Nat → Obj) (β : Beta) (b : Nat) : Prop := ∃ id o, (objs id).alive = true ∧ β id = some (b, o)
def zz (objs : Nat → Obj) (β : Beta) (Z : Nat → Prop) (b : Nat) : Prop := Z b ∨ own objs β b

def RelObj (w : World) (Z : Nat → Prop) (β : Beta) (U : Nat → Option Nat) (id : Nat) : Obj → Prop
  | .dead => True
  | .box cells => ∃ b o, β id = some (b, o) ∧ b < w.heap.size ∧ (∀ p, w.frozen? ⟨b, p, none⟩ = false) ∧ ∀ i t, cells[i]? = some t → ∃ v, w.cell? ⟨b, o + i, none⟩ = some v ∧ RelT w Z β U t v
  | .arr e es xs => U id = some xs.length ∧ ((xs = [] ∧ β id = none) ∨ ∃ b cur, β id = some (b, 0) ∧ w.heap[b]? = some (.cells cur e (0, 0)) ∧ ∀ i x, xs[i]? = some x → RelRow w Z es x b (i * es.length))

/-- Objects, in memory. -/
structure RelO (w : World) (Z : Nat → Prop) (β : Beta) (U : Nat → Option Nat) (objs : Nat → Obj) : Prop where
  obj : ∀ id, RelObj w (zz objs β Z) β U id (objs id)
  inj : ∀ i j b o o', (objs i).alive = true → (objs j).alive = true → β i = some (b, o) → β j = some (b, o') → i = j
  lim : ∀ id, U id = none → objs id = .dead
  zlt : ∀ b, Z b → b < w.heap.size
  apart : ∀ b, Z b → ¬ own objs β b

structure Rel (ds : List Deferred) (w : World) (a : Act) (Z : Nat → Prop) (β : Beta) (U : Nat → Option Nat) (s : St) : Prop where
  slots : ∀ t, RelT w (zz s.objs β Z) β U (s.slots t) (a.tmps.getD t undef)
  objs : RelO w Z β U s.objs
  size : a.tmps.size = s.nt
  defers : a.defers = ds
  nxt : ∀ id, (U id).isSome = true → id < s.nxt
  np : ∀ id, id < s.np → (U id).isSome = true

end Go.Te
set_option linter.unusedVariables false
set_option linter.unusedSimpArgs false
namespace Go.Te
open Go.RowKit

/-! ### 5. Small programs over objects: what an operation asks -/
inductive Prog (α : Type) : Type 1 where
  | ret (a : α)
  | fail
  | look (id : Nat) (k : Obj → Prog α)
  | guard (c : Bool) (k : Prog α)
  | opt (A : Type) (o : Option A) (k : A → Prog α)

def Prog.bind {α β : Type} : Prog α → (α → Prog β) → Prog β
  | .ret a, f => f a
  | .fail, _ => .fail
  | .look id k, f => .look id fun o => (k o).bind f
  | .guard c k, f => .guard c (k.bind f)
  | .opt A o k, f => .opt A o fun x => (k x).bind f

instance : Monad Prog where
  pure := Prog.ret
  bind := Prog.bind

/-- With what is done next: so that it comes to plain 'if's and 'bind's. -/
def Prog.run {α R : Type} : Prog α → (Nat → Obj) → (rd : List Nat) → (List Nat → α → Option R) → Option R
  | .ret a, _, rd, K => K rd a
  | .fail, _, _, _ => none
  | .look id k, objs, rd, K => (k (objs id)).run objs (id :: rd) K
  | .guard c k, objs, rd, K => bif c then k.run objs rd K else none
  | .opt _ o k, objs, rd, K => o.bind fun x => (k x).run objs rd K

/-- It comes to a, having looked at the objects 'rd'. -/
def Prog.Runs {α : Type} : Prog α → (Nat → Obj) → List Nat → α → Prop
  | .ret a', _, rd, a => a = a' ∧ rd = []
  | .fail, _, _, _ => False
  | .look id k, objs, rd, a => ∃ rd', rd = id :: rd' ∧ (k (objs id)).Runs objs rd' a
  | .guard c k, objs, rd, a => c = true ∧ k.Runs objs rd a
  | .opt _ o k, objs, rd, a => ∃ x, o = some x ∧ (k x).Runs objs rd a

theorem Prog.runs_of_run {α R : Type} (objs : Nat → Obj) (K : List Nat → α → Option R) (r : R) : ∀ (p : Prog α) (acc : List Nat), p.run objs acc K = some r → ∃ rd a, p.Runs objs rd a ∧ K (rd.reverse ++ acc) a = some r
  | .ret a, acc, h => ⟨[], a, ⟨rfl, rfl⟩, h⟩
  | .fail, _, h => by simp [Prog.run] at h
  | .look id k, acc, h => by
    obtain ⟨rd, a, h1, h2⟩ := Prog.runs_of_run objs K r (k (objs id)) (id :: acc) h
    exact ⟨id :: rd, a, ⟨rd, rfl, h1⟩, by simpa using h2⟩
  | .guard c k, acc, h => by
    cases c with
    | false => simp [Prog.run] at h
    | true =>
      obtain ⟨rd, a, h1, h2⟩ := Prog.runs_of_run objs K r k acc (by simpa [Prog.run] using h)
      exact ⟨rd, a, ⟨rfl, h1⟩, h2⟩
  | .opt A o k, acc, h => by
    cases o with
    | none => simp [Prog.run] at h
    | some x =>
      obtain ⟨rd, a, h1, h2⟩ := Prog.runs_of_run objs K r (k x) acc (by simpa [Prog.run] using h)
      exact ⟨rd, a, ⟨x, rfl, h1⟩, h2⟩

theorem Prog.runs_agree {α : Type} {objs objs' : Nat → Obj} : ∀ (p : Prog α) (rd : List Nat) (a : α), p.Runs objs rd a → (∀ id, id ∈ rd → objs' id = objs id) → p.Runs objs' rd a
  | .ret _, _, _, h, _ => h
  | .fail, _, _, h, _ => h
  | .look id k, _, _, ⟨rd, e, h⟩, hag => by
    subst e
    refine ⟨rd, rfl, ?_⟩
    rw [hag id (by simp)]
    exact Prog.runs_agree (k (objs id)) rd _ h fun j hj => hag j (by simp [hj])
  | .guard _ k, rd, a, ⟨hc, h⟩, hag => ⟨hc, Prog.runs_agree k rd a h hag⟩
  | .opt _ _ k, rd, a, ⟨x, hx, h⟩, hag => ⟨x, hx, Prog.runs_agree (k x) rd a h hag⟩

theorem Prog.runs_bind {α β : Type} {objs : Nat → Obj} {f : α → Prog β} {b : β} : ∀ (p : Prog α) (rd : List Nat), (p.bind f).Runs objs rd b → ∃ rd1 rd2 a, p.Runs objs rd1 a ∧ (f a).Runs objs rd2 b ∧ rd = rd1 ++ rd2
  | .ret a, rd, h => ⟨[], rd, a, ⟨rfl, rfl⟩, h, rfl⟩
  | .fail, _, h => h.elim
  | .look id k, _, ⟨rd, e, h⟩ => by
    obtain ⟨r1, r2, a, h1, h2, h3⟩ := Prog.runs_bind (k (objs id)) rd h
    exact ⟨id :: r1, r2, a, ⟨r1, rfl, h1⟩, h2, by simp [e, h3]⟩
  | .guard _ k, rd, ⟨hc, h⟩ => by
    obtain ⟨r1, r2, a, h1, h2, h3⟩ := Prog.runs_bind k rd h
    exact ⟨r1, r2, a, ⟨hc, h1⟩, h2, h3⟩
  | .opt _ _ k, rd, ⟨x, hx, h⟩ => by
    obtain ⟨r1, r2, a, h1, h2, h3⟩ := Prog.runs_bind (k x) rd h
    exact ⟨r1, r2, a, ⟨x, hx, h1⟩, h2, h3⟩
theorem Prog.runs_bind' {α β : Type} {objs : Nat → Obj} {f : α → Prog β} {b : β} {p : Prog α} {rd : List Nat} (h : (p >>= f).Runs objs rd b) : ∃ rd1 rd2 a, p.Runs objs rd1 a ∧ (f a).Runs objs rd2 b ∧ rd = rd1 ++ rd2 :=
  Prog.runs_bind p rd h
theorem Prog.runs_pure {α : Type} {objs : Nat → Obj} {a b : α} {rd : List Nat} (h : (pure a : Prog α).Runs objs rd b) : b = a ∧ rd = [] := h

def ofOpt {A : Type} (o : Option A) : Prog A := .opt A o .ret
def need (c : Bool) : Prog Unit := .guard c (.ret ())

/-! ### 6. Rows and leaves -/
structure LV where
  l : Leaf
  x : l.T

def LV.tv (a : LV) : TV := .d a.l a.x

/-- The cells of a row, one by one. -/
def leaves : (es : List Leaf) → Row es → List LV
  | [], _ => []
  | [l], x => [⟨l, x⟩]
  | l :: l' :: ls, x => ⟨l, x.1⟩ :: leaves (l' :: ls) x.2

/-- A row of these cells. -/
def rowOf : (es : List Leaf) → List LV → Option (Row es)
  | [], as => match as with
    | [] => some ()
    | _ :: _ => none
  | [l], as => match as with
    | [a] => Leaf.cast a.l l a.x
    | _ => none
  | l :: l' :: ls, as => match as with
    | a :: as => (Leaf.cast a.l l a.x).bind fun y => (rowOf (l' :: ls) as).bind fun ys => some (y, ys)
    | [] => none

theorem rowOf_none (a : LV) (as : List LV) : rowOf [] (a :: as) = none := rfl
theorem rowOf_one0 (l : Leaf) : rowOf [l] [] = none := rfl
theorem rowOf_one (l : Leaf) (a : LV) : rowOf [l] [a] = Leaf.cast a.l l a.x := rfl
theorem rowOf_one2 (l : Leaf) (a b : LV) (as : List LV) : rowOf [l] (a :: b :: as) = none := rfl
theorem rowOf_cons0 (l l' : Leaf) (ls : List Leaf) : rowOf (l :: l' :: ls) [] = none := rfl
theorem rowOf_cons (l l' : Leaf) (ls : List Leaf) (a : LV) (as : List LV) : rowOf (l :: l' :: ls) (a :: as) = (Leaf.cast a.l l a.x).bind fun y => (rowOf (l' :: ls) as).bind fun ys => some (y, ys) := rfl

/-- Cells cut into rows. -/
def rowsOf (es : List Leaf) : (n : Nat) → List LV → Option (List (Row es))
  | 0, as => match as with
    | [] => some []
    | _ :: _ => none
  | n + 1, as => (rowOf es (as.take es.length)).bind fun x => (rowsOf es n (as.drop es.length)).bind fun xs => some (x :: xs)

/-- A constant. -/
def tvOf : Value → TV
  | .int k n => .d (.int k) n
  | .bool b => .d .bool b
  | .string s => .d .str s
  | .slice none 0 0 => .nil
  | .agg _ => .dead
  | .tuple _ => .dead
  | v => .raw v

/-- A value's cells; none: it isn't known how many. -/
def cellsT : TV → Option (List TV)
  | .dead => none
  | .tup _ => none
  | .agg xs => some xs
  | x => some [x]

/-! ### 7. What is known of the types -/
structure TI where
  desc : TypeDesc
  size : Nat
  bytes : Nat
  zero : Value
  lv : List Leaf
  plain : Bool := false

def TOk (P : Program) (T : Nat → Option TI) : Prop :=
  ∀ t ti, T t = some ti → P.underlying t = some ti.desc ∧ ∃ i, P.info? t = some i ∧ (i.size = ti.size ∧ i.bytes = ti.bytes ∧ i.zero = some ti.zero) ∧
    (ti.plain = true → P.stoodInHeld t = false ∧ P.eqGuardType P.depth t = false ∧ ∀ fs, ti.desc = .struct fs → ∀ f ∈ fs.toList, f.name ≠ "_")

def TI.agg (ti : TI) : Bool :=
  match ti.desc with
  | .struct _ | .array _ _ => true
  | _ => false

/-! ### 8. What an operation comes to -/
structure Eff where
  v : TV
  news : List Obj := []
  upds : List (Nat × Obj) := []

/-- A cell as a datum; an array of the call's own becomes one for good (its object is struck). -/
def toLV : TV → Prog (LV × List Nat)
  | .d l x => .ret (⟨l, x⟩, [])
  | .nil => .fail
  | .arr id _ n => .look id fun
    | .arr _ es xs => .ret (⟨.sl es, xs.take n⟩, [id])
    | _ => .fail
  | .arrF id _ => .look id fun
    | .arr _ es xs => .ret (⟨.sl es, xs⟩, [id])
    | _ => .fail
  | _ => .fail

/-- The same where the leaf is known: nil then is an empty list. -/
def toLeaf (l : Leaf) : TV → Prog (LV × List Nat)
  | .nil => match l with
    | .sl es => .ret (⟨.sl es, ([] : List (Row es))⟩, [])
    | _ => .fail
  | t => toLV t

def toLeaves : List Leaf → List TV → Prog (List LV × List Nat)
  | [], [] => .ret ([], [])
  | l :: ls, t :: ts => (toLeaf l t).bind fun a => (toLeaves ls ts).bind fun r => .ret (a.1 :: r.1, a.2 ++ r.2)
  | _, _ => .fail

def times (n : Nat) (es : List Leaf) : List Leaf := (List.replicate n es).flatten

def kill (l : List Nat) : List (Nat × Obj) := l.map fun id => (id, .dead)

def fillT (place : Nat → Option (Nat × Nat)) : List TV → List (Nat × TV) → Option (List TV)
  | cells, [] => some cells
  | cells, (i, v) :: rest =>
    match place i, cellsT v with
    | some (off, size), some cs => bif decide (cs.length = size) && decide (off + cs.length ≤ cells.length) then fillT place (cells.take off ++ cs ++ cells.drop (off + cs.length)) rest else none
    | _, _ => none

def asI : TV → Option (IntKind × Int)
  | .d (.int k) n => some (k, n)
  | _ => none
def asB : TV → Option Bool
  | .d .bool b => some b
  | _ => none
def asS : TV → Option ByteArray
  | .d .str s => some s
  | _ => none

section
variable (T : Nat → Option TI) (ρ : Operand → TV) (id0 : Nat)

def zeroCells (ti : TI) : List TV := ti.zero.cells.toList.map tvOf

def evAlloc (t : TypeId) : Prog Eff := (ofOpt (T t)).bind fun ti => .ret { v := .ptr id0 0, news := [.box (zeroCells ti)] }
def evBox (x : TV) : Prog Eff := (ofOpt (cellsT x)).bind fun cs => .ret { v := .ptr id0 0, news := [.box cs] }

def places (fs : Array Field) : Nat → Option (Nat × Nat) := fun i => (fs[i]?).bind fun f => (T f.type).bind fun fi => some (f.offset, fi.size)
def evBuild (t : TypeId) (parts : List (Nat × TV)) : Prog Eff :=
  (ofOpt (T t)).bind fun ti => match ti.desc with
  | .struct fs => (need (fs.all fun f => (T f.type).isSome)).bind fun _ => (ofOpt (fillT (places T fs) (zeroCells ti) parts)).bind fun cs => .ret { v := .agg cs }
  | .array _ e => (ofOpt (T e)).bind fun ei => (ofOpt (fillT (fun i => some (i * ei.size, ei.size)) (zeroCells ti) parts)).bind fun cs => .ret { v := .agg cs }
  | _ => .fail

def evBuildSlice (t : TypeId) (len : Nat) (parts : List (Nat × TV)) : Prog Eff :=
  (ofOpt (T t)).bind fun ti => match ti.desc with
  | .slice e => (ofOpt (T e)).bind fun ei =>
    (need (decide (len * ei.size ≤ 2 ^ 24) && decide (0 < ei.size) && decide (ei.lv.length = ei.size) && decide ((zeroCells ei).length = ei.size))).bind fun _ =>
    (ofOpt (fillT (fun i => some (i * ei.size, ei.size)) (List.replicate len (zeroCells ei)).flatten parts)).bind fun cs =>
    (toLeaves (times len ei.lv) cs).bind fun r => (ofOpt (rowsOf ei.lv len r.1)).bind fun xs => .ret { v := .arrF id0 ei.size, news := [.arr e ei.lv xs], upds := kill r.2 }
  | _ => .fail

/-- What stands at an address: so many cells. -/
def cellsAt (size : Nat) : TV → Prog (List TV)
  | .ptr id off => .look id fun
    | .box cs => (need (decide (off + size ≤ cs.length))).bind fun _ => .ret ((cs.drop off).take size)
    | _ => .fail
  | .eptr id k i j => .look id fun
    | .arr _ es xs => (need (decide (k = es.length) && decide (j + size ≤ es.length))).bind fun _ => (ofOpt (xs[i]?)).bind fun x => .ret ((((leaves es x).map LV.tv).drop j).take size)
    | _ => .fail
  | .dptr es x j => (need (decide (j + size ≤ es.length))).bind fun _ => .ret ((((leaves es x).map LV.tv).drop j).take size)
  | _ => .fail

def evLoad (t : TypeId) (x : TV) : Prog Eff :=
  (ofOpt (T t)).bind fun ti => bif ti.agg then (cellsAt ti.size x).bind fun cs => .ret { v := .agg cs }
    else (cellsAt 1 x).bind fun | [c] => .ret { v := c } | _ => .fail

def evStore (t : TypeId) (a x : TV) : Prog Eff :=
  (ofOpt (T t)).bind fun ti => (ofOpt (cellsT x)).bind fun cs => (need (decide (cs.length = ti.size))).bind fun _ => match a with
  | .ptr id off => .look id fun
    | .box old => (need (decide (off + cs.length ≤ old.length) && cs.all fun | .dead => false | .agg _ => false | .tup _ => false | _ => true)).bind fun _ =>
        .ret { v := .dead, upds := [(id, .box (old.take off ++ cs ++ old.drop (off + cs.length)))] }
    | _ => .fail
  | .eptr id k i j => .look id fun
    | .arr e es xs => (need (decide (k = es.length) && decide (j + cs.length ≤ es.length))).bind fun _ => (ofOpt (xs[i]?)).bind fun y =>
        (toLeaves ((es.drop j).take cs.length) cs).bind fun r => (need (!r.2.contains id)).bind fun _ =>
        (ofOpt (rowOf es ((leaves es y).take j ++ r.1 ++ (leaves es y).drop (j + cs.length)))).bind fun y' =>
        .ret { v := .dead, upds := kill r.2 ++ [(id, .arr e es (xs.set i y'))] }
    | _ => .fail
  | _ => .fail

def evNilCheck (x : TV) : Prog Eff :=
  match x with
  | .ptr .. | .eptr .. | .dptr .. | .fn .. => .ret { v := x }
  | _ => .fail

def evFieldAddr (s : TypeId) (x : TV) (f : Nat) : Prog Eff :=
  (ofOpt (T s)).bind fun ti => match ti.desc with
  | .struct fs => (ofOpt (fs[f]?)).bind fun fl => (ofOpt (T fl.type)).bind fun fi => (need (decide (0 < fi.size))).bind fun _ => match x with
    | .ptr id off => .ret { v := .ptr id (off + fl.offset) }
    | .eptr id k i j => .ret { v := .eptr id k i (j + fl.offset) }
    | .dptr es y j => .ret { v := .dptr es y (j + fl.offset) }
    | _ => .fail
  | _ => .fail

def evField (t : TypeId) (x : TV) (f : Nat) : Prog Eff :=
  (ofOpt (T t)).bind fun ti => match ti.desc, x with
  | .struct fs, .agg cs => (ofOpt (fs[f]?)).bind fun fl => (ofOpt (T fl.type)).bind fun fi =>
      bif fi.agg then (need (decide (fl.offset + fi.size ≤ cs.length))).bind fun _ => .ret { v := .agg ((cs.drop fl.offset).take fi.size) } else (ofOpt (cs[fl.offset]?)).bind fun c => .ret { v := c }
  | _, _ => .fail

def evIndexAddr (t : TypeId) (x i : TV) : Prog Eff :=
  (ofOpt (asI i)).bind fun kn => (ofOpt (T t)).bind fun ti => (need (decide (0 ≤ kn.2))).bind fun _ => match ti.desc, x with
    | .slice e, .d (.sl es) xs => (ofOpt (T e)).bind fun ei => (need (decide (ei.size = es.length) && decide (0 < es.length))).bind fun _ =>
        (ofOpt ((lst xs)[kn.2.toNat]?)).bind fun y => .ret { v := .dptr es y 0 }
    | .slice e, .arr id k m => (ofOpt (T e)).bind fun ei => (need (decide (ei.size = k))).bind fun _ => (need (decide (kn.2.toNat < m))).bind fun _ => .ret { v := .eptr id k kn.2.toNat 0 }
    | .slice e, .arrF id k => (ofOpt (T e)).bind fun ei => (need (decide (ei.size = k))).bind fun _ => .look id fun
        | .arr _ _ xs => (need (decide (kn.2.toNat < xs.length))).bind fun _ => .ret { v := .eptr id k kn.2.toNat 0 }
        | _ => .fail
    | .array len e, .ptr id off => (ofOpt (T e)).bind fun ei => (need (decide (kn.2.toNat < len))).bind fun _ => .ret { v := .ptr id (off + kn.2.toNat * ei.size) }
    | _, _ => .fail

def evIndex (t : TypeId) (x i : TV) : Prog Eff :=
  (ofOpt (asI i)).bind fun kn => (ofOpt (T t)).bind fun ti => (need (decide (0 ≤ kn.2))).bind fun _ => match ti.desc, x with
    | .string, .d .str s => (ofOpt ((sV s)[kn.2.toNat]?)).bind fun b => .ret { v := .d (.int .u8) (b.toNat : Int) }
    | .array len e, .agg cs => (ofOpt (T e)).bind fun ei => (need (decide (kn.2.toNat < len))).bind fun _ =>
        bif ei.agg then (need (decide (kn.2.toNat * ei.size + ei.size ≤ cs.length))).bind fun _ => .ret { v := .agg ((cs.drop (kn.2.toNat * ei.size)).take ei.size) } else (ofOpt (cs[kn.2.toNat * ei.size]?)).bind fun c => .ret { v := c }
    | _, _ => .fail

def evExtract (x : TV) (i : Nat) : Prog Eff :=
  match x with
  | .tup xs => (ofOpt (xs[i]?)).bind fun c => .ret { v := c }
  | _ => .fail

def cmpI : BinOp → Int → Int → Option Bool
  | .eql, a, b => some (a == b)
  | .neq, a, b => some (a != b)
  | .lss, a, b => some (decide (a < b))
  | .leq, a, b => some (decide (a ≤ b))
  | .gtr, a, b => some (decide (a > b))
  | .geq, a, b => some (decide (a ≥ b))
  | _, _, _ => none

def bitsI (op : BinOp) (k : IntKind) (x y : Int) : Option Int :=
  match op with
  | .and => some (k.wrap (BitVec.ofInt k.bits x &&& BitVec.ofInt k.bits y).toNat)
  | .or => some (k.wrap (BitVec.ofInt k.bits x ||| BitVec.ofInt k.bits y).toNat)
  | .xor => some (k.wrap (BitVec.ofInt k.bits x ^^^ BitVec.ofInt k.bits y).toNat)
  | _ => none

/-- Two whole numbers. -/
def evBinI (op : BinOp) (k k' : IntKind) (a b : Int) : Prog Eff :=
  match op with
  | .shl => (need (decide (0 ≤ b))).bind fun _ => .ret { v := .d (.int k) (k.wrap (a * 2 ^ (min b.toNat k.bits))) }
  | .shr => (need (decide (0 ≤ b))).bind fun _ => .ret { v := .d (.int k) (a.fdiv (2 ^ (min b.toNat k.bits))) }
  | .add => (need (k == k')).bind fun _ => .ret { v := .d (.int k) (k.wrap (a + b)) }
  | .sub => (need (k == k')).bind fun _ => .ret { v := .d (.int k) (k.wrap (a - b)) }
  | .mul => (need (k == k')).bind fun _ => .ret { v := .d (.int k) (k.wrap (a * b)) }
  | .quo => (need (k == k')).bind fun _ => (need (b != 0)).bind fun _ => .ret { v := .d (.int k) (k.wrap (a.tdiv b)) }
  | .rem => (need (k == k')).bind fun _ => (need (b != 0)).bind fun _ => .ret { v := .d (.int k) (a.tmod b) }
  | .and | .or | .xor => (need (k == k')).bind fun _ => (ofOpt (bitsI op k a b)).bind fun n => .ret { v := .d (.int k) n }
  | op => (need (k == k')).bind fun _ => (ofOpt (cmpI op a b)).bind fun c => .ret { v := .d .bool c }

def cmpS : BinOp → ByteArray → ByteArray → Option Bool
  | .eql, a, b => some (a.toList == b.toList)
  | .neq, a, b => some (!(a.toList == b.toList))
  | .lss, a, b => some (Op.bytesLess a.toList b.toList)
  | .leq, a, b => some (Op.bytesLess a.toList b.toList || a.toList == b.toList)
  | .gtr, a, b => some (!(Op.bytesLess a.toList b.toList || a.toList == b.toList))
  | .geq, a, b => some (!(Op.bytesLess a.toList b.toList))
  | _, _, _ => none

def evBinS (op : BinOp) (a b : ByteArray) : Prog Eff :=
  match op with
  | .add => (need (decide (((a.size + b.size : Nat) : Int) ≤ 9223372036854775807))).bind fun _ => .ret { v := .d .str (a ++ b) }
  | op => (ofOpt (cmpS op a b)).bind fun c => .ret { v := .d .bool c }

/-- '==' of whole numbers, bools, strings, and structs of these. -/
def eqFs (eq : TypeId → List TV → List TV → Option Bool) (xs ys : List TV) : List Field → Option Bool
  | [] => some true
  | f :: fs => (T f.type).bind fun fi => bif decide (f.offset + fi.size ≤ xs.length) && decide (f.offset + fi.size ≤ ys.length) && decide (0 < fi.size) then
      (eq f.type ((xs.drop f.offset).take fi.size) ((ys.drop f.offset).take fi.size)).bind fun r => (eqFs eq xs ys fs).bind fun q => some (r && q) else none
def eqT : Nat → TypeId → List TV → List TV → Option Bool
  | 0, _, _, _ => none
  | n + 1, t, xs, ys => (T t).bind fun ti => match ti.desc with
    | .struct fs => bif ti.plain then eqFs T (eqT n) xs ys fs.toList else none
    | .int _ => match xs, ys with
      | [.d (.int k) a], [.d (.int k') b] => bif k == k' then some (iV a == iV b) else none
      | _, _ => none
    | .bool => match xs, ys with
      | [.d .bool a], [.d .bool b] => some (bV a == bV b)
      | _, _ => none
    | .string => match xs, ys with
      | [.d .str a], [.d .str b] => some ((sV a).toList == (sV b).toList)
      | _, _ => none
    | _ => none

def nilEq (d : TypeDesc) (x y : TV) : Prog Bool :=
  match d, x, y with
  | .slice _, .nil, .nil => .ret true
  | .slice _, .d (.sl _) xs, .nil => (need (!(lst xs).isEmpty)).bind fun _ => .ret false
  | .slice _, .arr _ _ n, .nil => (need (decide (0 < n))).bind fun _ => .ret false
  | .slice _, .arrF id _, .nil => .look id fun
    | .arr _ _ xs => (need (!xs.isEmpty)).bind fun _ => .ret false
    | _ => .fail
  | .slice _, .raw (.slice a _ _), .nil => .ret a.isNone
  | .pointer _, .ptr .., .raw (.pointer none) => .ret false
  | .pointer _, .eptr .., .raw (.pointer none) => .ret false
  | .pointer _, .dptr .., .raw (.pointer none) => .ret false
  | .pointer _, .raw (.pointer none), .raw (.pointer none) => .ret true
  | _, _, _ => .fail

def evBin (op : BinOp) (xt : TypeId) (x y : TV) : Prog Eff :=
  match x, y with
  | .d (.int k) a, .d (.int k') b => evBinI op k k' a b
  | .d .str a, .d .str b => evBinS op a b
  | .d .bool a, .d .bool b => (ofOpt (T xt)).bind fun ti => match ti.desc, op with
    | .bool, .eql => .ret { v := .d .bool (bV a == b) }
    | .bool, .neq => .ret { v := .d .bool (!(bV a == b)) }
    | _, _ => .fail
  | .agg xs, .agg ys => (ofOpt (T xt)).bind fun ti => (need (ti.plain && ti.agg)).bind fun _ => (ofOpt (eqT T 20 xt xs ys)).bind fun r => match op with
    | .eql => .ret { v := .d .bool r }
    | .neq => .ret { v := .d .bool (!r) }
    | _ => .fail
  | x, y => (ofOpt (T xt)).bind fun ti => match op with
    | .eql => (nilEq ti.desc x y).bind fun r => .ret { v := .d .bool r }
    | .neq => (nilEq ti.desc x y).bind fun r => .ret { v := .d .bool (!r) }
    | _ => .fail

def evUn (op : UnOp) (x : TV) : Prog Eff :=
  match op, x with
  | .not, .d .bool b => .ret { v := .d .bool (!bV b) }
  | .neg, .d (.int k) n => .ret { v := .d (.int k) (k.wrap (0 - iV n)) }
  | .xor, .d (.int k) n => (ofOpt (bitsI .xor k (if k.signed then -1 else k.max) n)).bind fun r => .ret { v := .d (.int k) r }
  | _, _ => .fail

def strOf (xs : List Int) : ByteArray := ⟨(xs.map fun n => UInt8.ofNat n.toNat).toArray⟩
def bytesOf (s : ByteArray) : List Int := s.data.toList.map fun b => (b.toNat : Int)

def evConvert (src dst : TypeId) (x : TV) : Prog Eff :=
  (ofOpt (T src)).bind fun si => (ofOpt (T dst)).bind fun di => match si.desc, di.desc, x with
  | .int _, .int k, .d (.int _) n => .ret { v := .d (.int k) (k.wrap n) }
  | .string, .string, .d .str s => .ret { v := .d .str s }
  | .slice e, .string, .d (.sl [.int .u8]) xs => (ofOpt (T e)).bind fun ei => match ei.desc with
    | .int .u8 => .ret { v := .d .str (strOf (lst xs)) }
    | _ => .fail
  | .slice e, .string, .nil => (ofOpt (T e)).bind fun ei => match ei.desc with
    | .int .u8 => .ret { v := .d .str ByteArray.empty }
    | _ => .fail
  | .slice e, .string, .arr id _ n => (ofOpt (T e)).bind fun ei => match ei.desc with
    | .int .u8 => .look id fun
      | .arr _ [.int .u8] xs => .ret { v := .d .str (strOf (xs.take n)) }
      | _ => .fail
    | _ => .fail
  | .slice e, .string, .arrF id _ => (ofOpt (T e)).bind fun ei => match ei.desc with
    | .int .u8 => .look id fun
      | .arr _ [.int .u8] xs => .ret { v := .d .str (strOf xs) }
      | _ => .fail
    | _ => .fail
  | _, _, _ => .fail

def evMakeFunc (fn : Fn) (first caps : List TV) : Prog Eff :=
  match fn, first with
  | .func f, [] => .ret { v := .fn f caps }
  | _, _ => .fail

/-- A row of nothing. -/
def zeroRow (ti : TI) : Option (Row ti.lv) :=
  (go ti.lv (zeroCells ti)).bind (rowOf ti.lv)
where go : List Leaf → List TV → Option (List LV)
  | [], [] => some []
  | _ :: ls, .d l' x :: ts => (go ls ts).map fun r => ⟨l', x⟩ :: r
  | .sl es :: ls, .nil :: ts => (go ls ts).map fun r => ⟨.sl es, ([] : List (Row es))⟩ :: r
  | _, _ => none

def evMakeSlice (t : TypeId) (len cap : TV) : Prog Eff :=
  (ofOpt (asI len)).bind fun l => (ofOpt (asI cap)).bind fun c => (ofOpt (T t)).bind fun ti => match ti.desc with
  | .slice e => (ofOpt (T e)).bind fun ei => (need (decide (0 < ei.size) && decide (ei.lv.length = ei.size) && decide ((zeroCells ei).length = ei.size))).bind fun _ =>
    (need (decide (0 ≤ l.2) && decide (l.2 ≤ c.2) && decide (c.2 ≤ 4294967296) && decide (ei.bytes * c.2.toNat ≤ 281474976710656))).bind fun _ =>
    (ofOpt (zeroRow ei)).bind fun z => .ret { v := .arrF id0 ei.size, news := [.arr e ei.lv (List.replicate l.2.toNat z)] }
  | _ => .fail

/-- Bounds of a cut: low, high. -/
def cutAt (low high : Option TV) (len : Nat) : Prog (Nat × Nat) :=
  (match high with
    | none => Prog.ret len
    | some h => (ofOpt (asI h)).bind fun n => (need (decide (0 ≤ n.2))).bind fun _ => (need (decide (n.2.toNat ≤ len))).bind fun _ => .ret n.2.toNat).bind fun h =>
  (match low with
    | none => Prog.ret 0
    | some l => (ofOpt (asI l)).bind fun n => (need (decide (0 ≤ n.2))).bind fun _ => (need (decide (n.2.toNat ≤ h))).bind fun _ => .ret n.2.toNat).bind fun l => .ret (l, h)

def evSlice (t : TypeId) (x : TV) (low high max : Option TV) : Prog Eff :=
  match max with
  | some _ => .fail
  | none => (ofOpt (T t)).bind fun ti => match ti.desc, x with
    | .string, .d .str s => (cutAt low high (sV s).size).bind fun c => .ret { v := .d .str ((sV s).extract c.1 c.2) }
    | .slice e, .d (.sl es) xs => (ofOpt (T e)).bind fun ei => (need (decide (ei.size = es.length))).bind fun _ => (cutAt low high (lst xs).length).bind fun c => .ret { v := .d (.sl es) (((lst xs).take c.2).drop c.1) }
    | .slice e, .arr id k n => (ofOpt (T e)).bind fun ei => (need (decide (ei.size = k))).bind fun _ => (cutAt low high n).bind fun c => match low with
      | none => .ret { v := .arr id k c.2 }
      | some _ => .look id fun
        | .arr _ es xs => (need (decide (k = es.length))).bind fun _ => .ret { v := .d (.sl es) ((xs.take c.2).drop c.1), upds := [(id, .dead)] }
        | _ => .fail
    | .slice e, .arrF id k => (ofOpt (T e)).bind fun ei => (need (decide (ei.size = k))).bind fun _ => .look id fun
      | .arr _ es xs => (cutAt low high xs.length).bind fun c => match low with
        | none => .ret { v := .arr id k c.2 }
        | some _ => (need (decide (k = es.length))).bind fun _ => .ret { v := .d (.sl es) ((xs.take c.2).drop c.1), upds := [(id, .dead)] }
      | _ => .fail
    | .slice e, .nil => (ofOpt (T e)).bind fun _ => (cutAt low high 0).bind fun _ => .ret { v := .nil }
    | _, _ => .fail

def evLen (t : TypeId) (x : TV) : Prog Eff :=
  (ofOpt (T t)).bind fun ti => match ti.desc, x with
  | .string, .d .str s => .ret { v := .d (.int .i64) ((sV s).size : Int) }
  | .slice _, .d (.sl _) xs => .ret { v := .d (.int .i64) ((lst xs).length : Int) }
  | .slice _, .arr _ _ n => .ret { v := .d (.int .i64) (n : Int) }
  | .slice _, .arrF id _ => .look id fun
    | .arr _ _ xs => .ret { v := .d (.int .i64) (xs.length : Int) }
    | _ => .fail
  | .slice _, .nil => .ret { v := .d (.int .i64) (0 : Int) }
  | .array n _, _ => .ret { v := .d (.int .i64) (n : Int) }
  | _, _ => .fail

def evMinMax (mx : Bool) (a b : TV) : Prog Eff :=
  match a, b with
  | .d (.int k) x, .d (.int _) y => .ret { v := .d (.int k) (bif mx then (if iV y > iV x then iV y else iV x) else (if iV y < iV x then iV y else iV x)) }
  | _, _ => .fail

/-- What is appended, as a list; the object that it lies in. -/
def srcOf (es : List Leaf) : TV → Prog (List (Row es))
  | .d (.sl es') xs => ofOpt (rowCast es' es xs)
  | .nil => .ret []
  | .arr id _ n => .look id fun
    | .arr _ es' xs => ofOpt (rowCast es' es (xs.take n))
    | _ => .fail
  | .arrF id _ => .look id fun
    | .arr _ es' xs => ofOpt (rowCast es' es xs)
    | _ => .fail
  | .raw (.slice _ 0 _) => .ret []
  | _ => .fail

def evAppend (t : TypeId) (s x : TV) : Prog Eff :=
  (ofOpt (T t)).bind fun ti => match ti.desc with
  | .slice e => (ofOpt (T e)).bind fun ei => (need (decide (0 < ei.size) && decide (ei.lv.length = ei.size) && decide ((zeroCells ei).length = ei.size))).bind fun _ => match s with
    | .nil => (srcOf ei.lv x).bind fun ys => (need (decide (ys.length < 1099511627776 / (ei.bytes + 1)))).bind fun _ => .ret { v := .arrF id0 ei.size, news := [.arr e ei.lv ys] }
    | .arr id k n => .look id fun
      | .arr e' es' xs => (need (e == e' && decide (k = ei.size))).bind fun _ => (ofOpt (rowCast es' ei.lv (xs.take n))).bind fun xs' => (srcOf ei.lv x).bind fun ys =>
          (need (decide (n + ys.length < 1099511627776 / (ei.bytes + 1)))).bind fun _ => .ret { v := .arrF id0 ei.size, news := [.arr e ei.lv (xs' ++ ys)], upds := [(id, .dead)] }
      | _ => .fail
    | .arrF id k => .look id fun
      | .arr e' es' xs => (need (e == e' && decide (k = ei.size))).bind fun _ => (ofOpt (rowCast es' ei.lv xs)).bind fun xs' => (srcOf ei.lv x).bind fun ys =>
          (need (decide (xs'.length + ys.length < 1099511627776 / (ei.bytes + 1)))).bind fun _ => .ret { v := .arrF id0 ei.size, news := [.arr e ei.lv (xs' ++ ys)], upds := [(id, .dead)] }
      | _ => .fail
    | _ => .fail
  | _ => .fail
end
end Go.Te
set_option linter.unusedVariables false
set_option linter.unusedSimpArgs false
namespace Go.Te
open Go.RowKit

/-! ### 9. Names of objects -/
mutual
def idsT : TV → List Nat
  | .agg xs | .tup xs | .fn _ xs => idsTs xs
  | .ptr id _ | .eptr id _ _ _ | .arr id _ _ | .arrF id _ => [id]
  | _ => []
def idsTs : List TV → List Nat
  | [] => []
  | x :: xs => idsT x ++ idsTs xs
end
def idsO : Obj → List Nat
  | .box cs => idsTs cs
  | _ => []

/-- All that is reached, in order: what is left to look at, what was found (the last one first). -/
def gather : (fuel : Nat) → (todo : List Nat) → (found : List (Nat × Obj)) → Prog (List (Nat × Obj))
  | _, [], found => .ret found.reverse
  | 0, _ :: _, _ => .fail
  | n + 1, id :: todo, found => bif found.any fun p => p.1 == id then gather n todo found else .look id fun o => gather n (todo ++ idsO o) ((id, o) :: found)

def place (m : List Nat) (id : Nat) : Option Nat := let i := m.idxOf id; bif decide (i < m.length) then some i else none

mutual
/-- Another name for each object; what has none is dead. -/
def renT (m : Nat → Option Nat) : TV → TV
  | .agg xs => .agg (renTs m xs)
  | .tup xs => .tup (renTs m xs)
  | .fn f xs => .fn f (renTs m xs)
  | .ptr id off => match m id with | some j => .ptr j off | none => .dead
  | .eptr id k i j => match m id with | some id' => .eptr id' k i j | none => .dead
  | .arr id k n => match m id with | some j => .arr j k n | none => .dead
  | .arrF id k => match m id with | some j => .arrF j k | none => .dead
  | x => x
def renTs (m : Nat → Option Nat) : List TV → List TV
  | [] => []
  | x :: xs => renT m x :: renTs m xs
end
def renO (m : Nat → Option Nat) : Obj → Obj
  | .box cs => .box (renTs m cs)
  | o => o

def objsOf (l : List Obj) : Nat → Obj := fun i => (l[i]?).getD .dead
def assoc : List (Nat × TV) → Nat → TV
  | [], _ => .dead
  | p :: l, t => bif Nat.beq t p.1 then p.2 else assoc l t
def slotsOf (l : List TV) : Nat → TV := fun i => (l[i]?).getD .dead

/-! ### 10. States -/
def ev (s : St) : Operand → TV
  | .tmp t => s.slots t
  | .const v => tvOf v
  | .global _ => .dead
  | .func f => .fn f []

def St.put (s : St) (dst : Option Nat) (v : TV) : St :=
  match dst with
  | none => s
  | some d => { s with slots := fun t => bif Nat.beq t d then (bif Nat.blt d s.nt then v else .dead) else s.slots t }
theorem beq_if {α : Type} (a b : Nat) (x y : α) : (bif Nat.beq a b then x else y) = if a = b then x else y := by
  by_cases h : a = b
  · subst h; simp
  · have : Nat.beq a b = false := by cases hb : Nat.beq a b; rfl; exact absurd (Nat.eq_of_beq_eq_true hb) h
    simp [this, h]
def updO (objs : Nat → Obj) : List (Nat × Obj) → Nat → Obj
  | [] => objs
  | p :: l => updO (fun id => bif Nat.beq id p.1 then p.2 else objs id) l
def addO (objs : Nat → Obj) (id0 : Nat) : List Obj → Nat → Obj
  | [] => objs
  | o :: os => addO (fun id => bif Nat.beq id id0 then o else objs id) (id0 + 1) os
def Eff.objs (e : Eff) (objs : Nat → Obj) (id0 : Nat) : Nat → Obj := addO (updO objs e.upds) id0 e.news
def St.eff (s : St) (dst : Option Nat) (id0 : Nat) (e : Eff) : St := ({ s with objs := e.objs s.objs id0 } : St).put dst e.v

/-! ### 11. Code -/
inductive TExit where
  | normal
  | exit (id : Nat)
  | goto (l : Nat)
  | ret

/-- What is asked of a translation beside its types: bodies; contracts; which callees are handed objects; what lives at the head of a loop. -/
structure Con where
  run : (R : Type) → List TV → List Obj → (TV → List Obj → Option R) → Option R

/-- A part of a body that is told by a contract: a loop, or an 'if' behind which the ways meet again. What it needs, what lives on behind it (by how it is left), what comes of it. -/
structure Piece where
  ins : List Nat
  outs : TExit → List Nat
  run : (R : Type) → Nat → List TV → List Obj → (TExit → List TV → List Obj → Option R) → Option R

structure Env where
  T : Nat → Option TI
  fns : Nat → Option Func
  sem : Nat → Option Con
  byHand : Nat → Bool
  leaks : Nat → Bool
  keeps : Nat → Bool
  piece : Nat → Nat → Option Piece

def firstReg : Code → Nat
  | .region id _ _ => id
  | .seq a _ => firstReg a
  | .block _ c => firstReg c
  | .loop c => firstReg c
  | .scope c => firstReg c
  | .rangeFunc _ _ _ c => firstReg c
  | _ => 0

def scopeKey (c : Code) : Nat := 2 * (firstReg c + 1000000)
/-- The slots and objects of a part's begin or end, out of a state; and back. -/
def cutSt (live : List Nat) (s : St) : Prog (List TV × List Obj) :=
  (gather 64 (List.range s.np ++ idsTs (live.map s.slots)) []).bind fun l =>
    .ret (renTs (place (l.map (·.1))) (live.map s.slots), l.map fun p => renO (place (l.map (·.1))) p.2)
def laySt (live : List Nat) (vals : List TV) (objs : List Obj) (nt np : Nat) : St :=
  { slots := assoc (live.zip vals), objs := objsOf objs, nxt := objs.length, nt := nt, np := np }

/-- The row of leaves. -/
def mkRow : (ls : List LV) → Row (ls.map LV.l)
  | [] => ()
  | [l] => l.x
  | l :: l' :: ls => (l.x, mkRow (l' :: ls))
def toLVs : List TV → Prog (List LV × List Nat)
  | [] => .ret ([], [])
  | t :: ts => (toLV t).bind fun a => (toLVs ts).bind fun r => .ret (a.1 :: r.1, a.2 ++ r.2)
/-- What a closure has captured, as data: a box that it points to is one for good (its object is struck). -/
def capData : TV → Prog (TV × List Nat)
  | .d l x => .ret (.d l x, [])
  | .dptr es x j => .ret (.dptr es x j, [])
  | .ptr id off => .look id fun
    | .box cells => (toLVs cells).bind fun r => .ret (.dptr (r.1.map LV.l) (mkRow r.1) off, id :: r.2)
    | _ => .fail
  | _ => .fail
def capsData : List TV → Prog (List TV × List Nat)
  | [] => .ret ([], [])
  | t :: ts => (capData t).bind fun a => (capsData ts).bind fun r => .ret (a.1 :: r.1, a.2 ++ r.2)

/-- What a closure that is told has captured: of a box, as many cells as are data (its object is struck). -/
def cellsPre : List TV → List LV
  | .d l x :: r => ⟨l, x⟩ :: cellsPre r
  | .nil :: r => ⟨.sl [], ([] : List (Row []))⟩ :: cellsPre r
  | _ => []
def capPre : TV → Prog (TV × List Nat)
  | .d l x => .ret (.d l x, [])
  | .dptr es x j => .ret (.dptr es x j, [])
  | .ptr id off => .look id fun
    | .box cells => .ret (.dptr ((cellsPre cells).map LV.l) (mkRow (cellsPre cells)) off, [id])
    | _ => .fail
  | _ => .fail
def capsPre : List TV → Prog (List TV × List Nat)
  | [] => .ret ([], [])
  | t :: ts => (capPre t).bind fun a => (capsPre ts).bind fun r => .ret (a.1 :: r.1, a.2 ++ r.2)
def closeTs : List TV → Prog (List TV × List Nat)
  | [] => .ret ([], [])
  | .fn f caps :: ts => (capsPre caps).bind fun a => (closeTs ts).bind fun r => .ret (.fn f a.1 :: r.1, a.2 ++ r.2)
  | t :: ts => (closeTs ts).bind fun r => .ret (t :: r.1, r.2)

/-- An argument for a callee that is handed data alone. -/
def dataArg (E : Env) (t : TypeId) (x : TV) : Prog (TV × List Nat) :=
  match x with
  | .fn f caps => (capsData caps).bind fun r => .ret (.fn f r.1, r.2)
  | .agg cs => (ofOpt (E.T t)).bind fun ti => (toLeaves ti.lv cs).bind fun r => .ret (.agg (r.1.map LV.tv), r.2)
  | x => (ofOpt (E.T t)).bind fun ti => match ti.lv with
    | [l] => (toLeaf l x).bind fun r => .ret (r.1.tv, r.2)
    | _ => .fail

def dataArgs (E : Env) : List TypeId → List TV → Prog (List TV × List Nat)
  | [], [] => .ret ([], [])
  | t :: ts, x :: xs => (dataArg E t x).bind fun a => (dataArgs E ts xs).bind fun r => .ret (a.1 :: r.1, a.2 ++ r.2)
  | _, _ => .fail

mutual
/-- No slice in it. -/
def flatT : TV → Bool
  | .d (.sl _) _ => false
  | .d _ _ => true
  | .agg xs | .tup xs => flatTs xs
  | _ => false
def flatTs : List TV → Bool
  | [] => true
  | x :: xs => flatT x && flatTs xs
end

/-- What a callee tells, in the caller's names. -/
def back (ids : List Nat) (id0 : Nat) (r : TV) (objs : List Obj) : Eff :=
  let m : Nat → Option Nat := fun j => bif Nat.blt j ids.length then ids[j]? else some (id0 + (j - ids.length))
  { v := renT m r, news := (objs.drop ids.length).map (renO m), upds := ids.zip ((objs.take ids.length).map (renO m)) }

section
variable {R : Type} (E : Env) (call : Nat → List TV → List Obj → (TV → List Obj → Option R) → Option R)

/-- A call: what it looks at, what comes of it, and then. -/
def evCall (f : Nat) (args : List TV) (s : St) (id0 : Nat) (K : List Nat → Eff → Option R) : Option R :=
  bif E.byHand f then
    (gather 64 (idsTs args) []).run s.objs [] fun rd l =>
      call f (renTs (place (l.map (·.1))) args) (l.map fun p => renO (place (l.map (·.1))) p.2) fun r objs =>
        bif Nat.ble objs.length (l.length + 32) && Nat.ble l.length objs.length then K rd (back (l.map (·.1)) id0 r objs) else none
  else
    (E.fns f).bind fun fn => (dataArgs E fn.params.toList args).run s.objs [] fun rd p =>
      call f p.1 [] fun r objs =>
        bif p.2.isEmpty || (flatT r && objs.isEmpty && !E.leaks f) then (bif Nat.ble objs.length 32 then K rd (back [] id0 r objs) else none)
        else (bif Nat.ble objs.length 32 then K rd { back [] id0 r objs with upds := kill p.2 } else none)

def evPlain (E : Env) (s : St) (id0 : Nat) : Op → Prog Eff
  | .move x | .assign x => .ret { v := ev s x }
  | .alloc t => evAlloc E.T id0 t
  | .box _ x => evBox id0 (ev s x)
  | .build t ps => evBuild E.T t (ps.toList.map fun p => (p.1, ev s p.2))
  | .buildSlice t n ps => evBuildSlice E.T id0 t n (ps.toList.map fun p => (p.1, ev s p.2))
  | .load t a => evLoad E.T t (ev s a)
  | .store t a x => evStore E.T t (ev s a) (ev s x)
  | .nilCheck x => evNilCheck (ev s x)
  | .binOp op xt x y _ => evBin E.T op xt (ev s x) (ev s y)
  | .unOp op _ x => evUn op (ev s x)
  | .convert src dst x => evConvert E.T src dst (ev s x)
  | .makeFunc fn first caps => evMakeFunc fn (first.toList.map (ev s)) (caps.toList.map (ev s))
  | .makeSlice t l c => evMakeSlice E.T id0 t (ev s l) (ev s c)
  | .slice t x lo hi mx => evSlice E.T t (ev s x) (lo.map (ev s)) (hi.map (ev s)) (mx.map (ev s))
  | .fieldAddr t x f => evFieldAddr E.T t (ev s x) f
  | .field t x f => evField E.T t (ev s x) f
  | .indexAddr t x i => evIndexAddr E.T t (ev s x) (ev s i)
  | .index t x i => evIndex E.T t (ev s x) (ev s i)
  | .extract x i => evExtract (ev s x) i
  | .call { callee := .builtin .len, args := args, argTypes := ts } => match args.toList, ts.toList with
    | [x], [t] => evLen E.T t (ev s x)
    | _, _ => .fail
  | .call { callee := .builtin .append, args := args, argTypes := ts } => match args.toList, ts.toList with
    | [x, y], [t, t'] => bif Nat.beq t t' then evAppend E.T id0 t (ev s x) (ev s y) else .fail
    | _, _ => .fail
  | .call { callee := .builtin .min, args := args, argTypes := _ } => match args.toList with
    | [x, y] => evMinMax false (ev s x) (ev s y)
    | _ => .fail
  | .call { callee := .builtin .max, args := args, argTypes := _ } => match args.toList with
    | [x, y] => evMinMax true (ev s x) (ev s y)
    | _ => .fail
  | _ => .fail

def evOp (s : St) (id0 : Nat) (o : Oper) (K : List Nat → Eff → Option R) : Option R :=
  match o.op with
  | .pick c a b => (asB (ev s c)).bind fun t => bif t then K [] { v := ev s a } else K [] { v := ev s b }
  | .call { callee := .value f, args := args, argTypes := _ } => match ev s f with
    | .fn g caps => evCall E call g (args.toList.map (ev s) ++ caps) s id0 K
    | _ => none
  | op => (evPlain E s id0 op).run s.objs [] K

/-- Operations in the order of the text. -/
def evOps (ops : Array Oper) (base : Nat) : (i : Nat) → List Oper → St → (St → Option R) → Option R
  | _, [], s, K => K s
  | i, o :: rest, s, K =>
    match o.guard with
    | none => evOp E call s (base + 32 * i) o fun _ e => evOps ops base (i + 1) rest (s.eff o.dst (base + 32 * i) e) K
    | some (j, want) => ((ops[j]?).bind (·.dst)).bind fun g => (asB (s.slots g)).bind fun b =>
        bif b then (bif want then evOp E call (s.put (some g) (.d .bool true)) (base + 32 * i) o fun _ e => evOps ops base (i + 1) rest ((s.put (some g) (.d .bool true)).eff o.dst (base + 32 * i) e) K
            else evOps ops base (i + 1) rest ((s.put (some g) (.d .bool true)).put o.dst .dead) K)
        else (bif want then evOps ops base (i + 1) rest ((s.put (some g) (.d .bool false)).put o.dst .dead) K
            else evOp E call (s.put (some g) (.d .bool false)) (base + 32 * i) o fun _ e => evOps ops base (i + 1) rest ((s.put (some g) (.d .bool false)).eff o.dst (base + 32 * i) e) K)
end

/-- A callee's answer, once for all. -/
def once {R : Type} (call : (R : Type) → Nat → List TV → List Obj → (TV → List Obj → Option R) → Option R) (f : Nat) (args : List TV) (objs : List Obj) (K : TV → List Obj → Option R) : Option R :=
  (call (TV × List Obj) f args objs fun v o => some (v, o)).bind fun p => K p.1 p.2

/-- A callee by its contract alone. -/
def semCall (E : Env) (R : Type) (f : Nat) (args : List TV) (objs : List Obj) (K : TV → List Obj → Option R) : Option R := (E.sem f).bind fun c => c.run R args objs K

/-- What an operation looked at, and what came of it (none: it was passed over). -/
structure Note where
  rd : List Nat
  e : Option Eff

def Note.wr (n : Note) : List Nat := match n.e with
  | some e => e.upds.map (·.1)
  | none => []
def St.note (s : St) (dst : Option Nat) (id0 : Nat) (n : Note) : St := match n.e with
  | some e => s.eff dst id0 e
  | none => s.put dst .dead

/-- Operations whose order is drawn: in the order of the text, and what each did. -/
def evDraw {R : Type} (E : Env) (call : Nat → List TV → List Obj → (TV → List Obj → Option R) → Option R) (ops : Array Oper) (base : Nat) : (i : Nat) → List Oper → List Note → St → (List Note → St → Option R) → Option R
  | _, [], log, s, K => K log s
  | i, o :: rest, log, s, K =>
    match o.guard with
    | none => evOp E call s (base + 32 * i) o fun rd e => evDraw E call ops base (i + 1) rest (⟨rd, some e⟩ :: log) (s.eff o.dst (base + 32 * i) e) K
    | some (j, want) => ((ops[j]?).bind (·.dst)).bind fun g => (asB (s.slots g)).bind fun b => bif Nat.blt g s.nt then
        bif b then (bif want then evOp E call (s.put (some g) (.d .bool true)) (base + 32 * i) o fun rd e => evDraw E call ops base (i + 1) rest (⟨rd, some e⟩ :: log) ((s.put (some g) (.d .bool true)).eff o.dst (base + 32 * i) e) K
            else evDraw E call ops base (i + 1) rest (⟨[], none⟩ :: log) ((s.put (some g) (.d .bool true)).put o.dst .dead) K)
        else (bif want then evDraw E call ops base (i + 1) rest (⟨[], none⟩ :: log) ((s.put (some g) (.d .bool false)).put o.dst .dead) K
            else evOp E call (s.put (some g) (.d .bool false)) (base + 32 * i) o fun rd e => evDraw E call ops base (i + 1) rest (⟨rd, some e⟩ :: log) ((s.put (some g) (.d .bool false)).eff o.dst (base + 32 * i) e) K)
        else none

/-! Which operations come ahead of which. -/
def edges (o : Oper) : List Nat := (o.after.toList.filter (Region.binds .any)).map (·.on)
def unionN (a b : List Nat) : List Nat := a.foldl (fun r x => bif r.contains x then r else x :: r) b
def aheadTbl : List Oper → List (List Nat) → List (List Nat)
  | [], t => t
  | o :: rest, t => aheadTbl rest (t ++ [(edges o).foldl (fun r j => unionN (j :: (t[j]?).getD []) r) []])
def meets (a b : List Nat) : Bool := a.any fun x => b.contains x
def meetsNew (k : Nat) (l : List Nat) : Bool := l.any fun id => Nat.ble k id && Nat.blt id (k + 32)
def Note.few (n : Note) : Bool := match n.e with
  | some e => Nat.ble e.news.length 32
  | none => true
/-- Two operations of which neither comes ahead of the other: neither touches what the other looks at. -/
def apartOps (ops : Array Oper) (base j i : Nat) (x y : Oper) (n m : Note) : Bool :=
  x.apart ops y && !meets n.wr m.rd && !meets n.wr m.wr && !meets m.wr n.rd && !meetsNew (base + 32 * j) (m.rd ++ m.wr) && !meetsNew (base + 32 * i) (n.rd ++ n.wr)
def pairsOk (ops : Array Oper) (base : Nat) (tbl : List (List Nat)) (log : List Note) : Bool :=
  log.all Note.few && (List.range ops.size).all fun i => (List.range i).all fun j =>
    ((tbl[i]?).getD []).contains j || (match ops[j]?, ops[i]?, log[j]?, log[i]? with
      | some x, some y, some n, some m => apartOps ops base j i x y n m
      | _, _, _, _ => false)
def tblOk (ops : Array Oper) (tbl : List (List Nat)) : Bool :=
  (List.range ops.size).all fun i => match ops[i]? with
    | some o => (edges o).all (fun j => Nat.blt j i) && ((tbl[i]?).getD []).all fun k => (edges o).any fun j => k == j || ((tbl[j]?).getD []).contains k
    | none => false
def drawOk (ops : Array Oper) (base : Nat) (log : List Note) : Bool := tblOk ops (aheadTbl ops.toList []) && pairsOk ops base (aheadTbl ops.toList []) log

section
variable {R : Type} (E : Env) (call : (R : Type) → Nat → List TV → List Obj → (TV → List Obj → Option R) → Option R)

def refine (s : St) (c : Operand) (b : Bool) : St :=
  match c with
  | .tmp t => s.put (some t) (.d .bool b)
  | _ => s

/-- By its contract. -/
def viaPiece (p : Piece) (s : St) (K : TExit → St → Option R) : Option R :=
  (cutSt p.ins s).run s.objs [] fun _ v => p.run R s.np v.1 v.2 fun e vals objs => K e (laySt (p.outs e) vals objs s.nt s.np)
def condKey : Operand → Nat
  | .tmp t => 2 * t + 1
  | _ => 1

def evC (fid : Nat) : Code → St → (TExit → St → Option R) → Option R
  | .skip, s, K => K .normal s
  | .label _, s, K => K .normal s
  | .region _ ops draw, s, K => bif draw then evDraw E (semCall E R) ops s.nxt 0 ops.toList [] { s with nxt := s.nxt + 32 * ops.size } fun log s' => bif drawOk ops s.nxt log.reverse then K .normal s' else none
      else evOps E (call R) ops s.nxt 0 ops.toList { s with nxt := s.nxt + 32 * ops.size } fun s => K .normal s
  | .seq a b, s, K => evC fid a s fun e s => match e with
    | .normal => evC fid b s K
    | e => K e s
  | .cond c x y, s, K => match E.piece fid (condKey c) with
    | some p => viaPiece p s K
    | none => (asB (ev s c)).bind fun b => bif b then evC fid x (refine s c true) K else evC fid y (refine s c false) K
  | .block id body, s, K => evC fid body s fun e s => match e with
    | .exit j => bif Nat.beq j id then K .normal s else K (.exit j) s
    | e => K e s
  | .loop body, s, K => match E.piece fid (2 * firstReg body) with
    | some p => viaPiece p s K
    | none => none
  | .rangeFunc _ _ _ body, s, K => match E.piece fid (2 * firstReg body) with
    | some p => viaPiece p s K
    | none => none
  | .scope body, s, K => match E.piece fid (scopeKey body) with
    | some p => viaPiece p s K
    | none => none
  | .exit id, s, K => K (.exit id) s
  | .goto l, s, K => K (.goto l) s
  | .ret, s, K => K .ret s
  | _, _, _ => none

def resultsT (E : Env) (s : St) : List ResultVar → Prog (List TV)
  | [] => .ret []
  | .tmp t :: l => (resultsT E s l).bind fun r => .ret (s.slots t :: r)
  | .cell a t :: l => (evLoad E.T t (s.slots a)).bind fun e => (resultsT E s l).bind fun r => .ret (e.v :: r)

def one : List TV → TV
  | [x] => x
  | xs => .tup xs

/-- What is told at a body's end. -/
def evEnd (f : Nat) (fn : Func) (objs : List Obj) (K : TV → List Obj → Option R) (s : St) : Option R :=
  (resultsT E s fn.results.toList).run s.objs [] fun _ vs =>
    bif E.keeps f || E.byHand f then
      (closeTs vs).run s.objs [] fun _ p => (gather 64 (List.range objs.length ++ idsTs p.1) []).run (updO s.objs (kill p.2)) [] fun _ l =>
        K (one (renTs (place (l.map (·.1))) p.1)) (l.map fun q => renO (place (l.map (·.1))) q.2)
    else match objs with
      | [] => (dataArgs E fn.resultTypes.toList vs).run s.objs [] fun _ p => K (one p.1) []
      | _ => none

/-- A body, and what is told. -/
def evFn (f : Nat) (fn : Func) (args : List TV) (objs : List Obj) (K : TV → List Obj → Option R) : Option R :=
  fn.body.bind fun c => bif Nat.ble args.length fn.ntmps then
    evC E call f c { slots := slotsOf args, objs := objsOf objs, nxt := objs.length, nt := fn.ntmps, np := objs.length } fun e s => match e with
      | .goto _ | .exit _ => none
      | _ => evEnd E f fn objs K s
    else none
end

/-- A loop: round by round. -/
def evLoop (E : Env) (call : (R : Type) → Nat → List TV → List Obj → (TV → List Obj → Option R) → Option R) (fid nt np : Nat) (body : Code) (p : Piece) :
    Nat → List TV → List Obj → Option (TExit × List TV × List Obj)
  | 0, _, _ => none
  | n + 1, vals, objs => evC E call fid body (laySt p.ins vals objs nt np) fun e s => match e with
    | .normal => (cutSt p.ins s).run s.objs [] fun _ v => evLoop E call fid nt np body p n v.1 v.2
    | e => (cutSt (p.outs e) s).run s.objs [] fun _ v => some (e, v.1, v.2)
/-- An 'if'. -/
def evIf (E : Env) (call : (R : Type) → Nat → List TV → List Obj → (TV → List Obj → Option R) → Option R) (fid nt np : Nat) (c : Operand) (x y : Code) (p : Piece)
    (vals : List TV) (objs : List Obj) : Option (TExit × List TV × List Obj) :=
  (asB (ev (laySt p.ins vals objs nt np) c)).bind fun b =>
    bif b then evC E call fid x (refine (laySt p.ins vals objs nt np) c true) fun e s => (cutSt (p.outs e) s).run s.objs [] fun _ v => some (e, v.1, v.2)
    else evC E call fid y (refine (laySt p.ins vals objs nt np) c false) fun e s => (cutSt (p.outs e) s).run s.objs [] fun _ v => some (e, v.1, v.2)

/-- A part with labels: from label to label. -/
def evScope (E : Env) (call : (R : Type) → Nat → List TV → List Obj → (TV → List Obj → Option R) → Option R) (fid nt np : Nat) (c : Code) (lab : Nat → List Nat) (p : Piece) : Nat → Code → St → Option (TExit × List TV × List Obj)
  | 0, _, _ => none
  | n + 1, code, s => evC E call fid code s fun e s => match e with
    | .goto j => match findLabel c j with
      | some rest => (cutSt (lab j) s).run s.objs [] fun _ v => evScope E call fid nt np c lab p n rest (laySt (lab j) v.1 v.2 nt np)
      | none => (cutSt (p.outs (.goto j)) s).run s.objs [] fun _ v => some (.goto j, v.1, v.2)
    | e => (cutSt (p.outs e) s).run s.objs [] fun _ v => some (e, v.1, v.2)

/-- With callees by their contracts, or walked into. -/
def callAt {R : Type} (E : Env) : Nat → Nat → List TV → List Obj → (TV → List Obj → Option R) → Option R
  | d, f, args, objs, K => match E.sem f with
    | some c => c.run R args objs K
    | none => match d with
      | 0 => none
      | d + 1 => (E.fns f).bind fun fn => evFn E (fun R => callAt (R := R) E d) f fn args objs K
end Go.Te
