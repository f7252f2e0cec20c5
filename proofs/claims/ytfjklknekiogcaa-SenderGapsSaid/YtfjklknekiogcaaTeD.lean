/-
  heliographlaw14.SenderGaps: what is claimed and what is not have, together, each byte once.
  No conditions: every input that the statement lets in. Part TeD: own work.
-/
import Derived.Test.YtfjklknekiogcaaTeA
import Derived.WalkKit
import Derived.Laws.AppendOwn
import Derived.Laws.IdiomCopy
import Derived.Laws.Cells
import Derived.Laws.StructEq
set_option linter.unusedVariables false
set_option linter.unusedSimpArgs false
namespace Go.Te
open Go.RowKit

/-! ### 12. How the heap may turn -/
theorem own_lt {w : World} {Z : Nat → Prop} {β : Beta} {U : Nat → Option Nat} {objs : Nat → Obj} (h : RelO w Z β U objs) {b : Nat} (hb : own objs β b) : b < w.heap.size := by
  obtain ⟨id, o, hal, hβ⟩ := hb
  have hr := h.obj id
  cases ho : objs id with
  | dead => rw [ho] at hal; cases hal
  | box cs =>
    rw [ho] at hr
    obtain ⟨b', o', h1, h2, _⟩ := hr
    rw [hβ] at h1
    cases h1
    exact h2
  | arr e es xs =>
    rw [ho] at hr
    rcases hr.2 with ⟨_, h1⟩ | ⟨b', cur, h1, h2, _⟩
    · rw [hβ] at h1; cases h1
    · rw [hβ] at h1
      cases h1
      exact (Array.getElem?_eq_some_iff.1 h2).1

theorem zz_lt {w : World} {Z : Nat → Prop} {β : Beta} {U : Nat → Option Nat} {objs : Nat → Obj} (h : RelO w Z β U objs) {b : Nat} (hb : zz objs β Z b) : b < w.heap.size :=
  hb.elim (h.zlt b) (own_lt h)

theorem RelO.alive_U {w : World} {Z : Nat → Prop} {β : Beta} {U : Nat → Option Nat} {objs : Nat → Obj} (h : RelO w Z β U objs) {id : Nat} (ha : (objs id).alive = true) : (U id).isSome = true := by
  cases hu : U id with
  | some l => rfl
  | none => rw [h.lim id hu] at ha; cases ha

/-- One block has turned (or is new), one object has come into its place, some have gone. -/
structure Turn (w : World) (Z : Nat → Prop) (β : Beta) (U : Nat → Option Nat) (objs : Nat → Obj) (w' : World) (β' : Beta) (objs' : Nat → Obj) (b o id L : Nat) : Prop where
  rel : RelO w Z β U objs
  step : WStep (fun x => x = b) w w'
  old : own objs β b ∨ w.heap.size ≤ b
  lt : b < w'.heap.size
  other : ∀ j, j ≠ id → objs' j = objs j ∨ objs' j = .dead
  apart : ∀ j, j ≠ id → (objs' j).alive = true → ∀ q, β j ≠ some (b, q)
  at_ : β' id = some (b, o)
  else_ : ∀ j, j ≠ id → β' j = β j
  keep : ∀ l, U id = some l → β' id = β id ∧ l = L

namespace Turn
variable {w w' : World} {Z : Nat → Prop} {β β' : Beta} {U : Nat → Option Nat} {objs objs' : Nat → Obj} {b o id L : Nat}
theorem le (t : Turn w Z β U objs w' β' objs' b o id L) : Beta.le U β β' := fun j hj => by
  by_cases e : j = id
  · subst e
    obtain ⟨l, hl⟩ := Option.isSome_iff_exists.1 hj
    exact (t.keep l hl).1
  · exact t.else_ j e
theorem own_sub (t : Turn w Z β U objs w' β' objs' b o id L) : ∀ x, x < w.heap.size → own objs' β' x → own objs β x := by
  rintro x hx ⟨j, q, hal, hβ⟩
  by_cases e : j = id
  · subst e
    rw [t.at_] at hβ
    cases hβ
    exact t.old.elim (fun h => h) (fun h => absurd hx (by omega))
  · rcases t.other j e with h | h
    · rw [h] at hal
      exact ⟨j, q, hal, by rw [← t.else_ j e]; exact hβ⟩
    · rw [h] at hal; cases hal
theorem zsub (t : Turn w Z β U objs w' β' objs' b o id L) : ∀ x, x < w.heap.size → zz objs' β' Z x → zz objs β Z x := fun x hx h => h.elim .inl (fun q => .inr (t.own_sub x hx q))
theorem hown (t : Turn w Z β U objs w' β' objs' b o id L) : ∀ x, x < w.heap.size → x = b → zz objs β Z x := fun x hx e => by
  subst e
  exact t.old.elim .inr (fun h => absurd hx (by omega))
theorem usub (t : Turn w Z β U objs w' β' objs' b o id L) : ∀ j l, U j = some l → (if j = id then some L else U j) = some l := fun j l h => by
  by_cases e : j = id
  · subst e; rw [if_pos rfl, (t.keep l h).2]
  · rw [if_neg e]; exact h
theorem tv (t : Turn w Z β U objs w' β' objs' b o id L) {x : TV} {v : Value} (h : RelT w (zz objs β Z) β U x v) : RelT w' (zz objs' β' Z) β' (fun j => if j = id then some L else U j) x v :=
  RelT.step t.step t.hown t.zsub t.le t.usub x v h
theorem row (t : Turn w Z β U objs w' β' objs' b o id L) {es : List Leaf} {x : Row es} {b' o' : Nat} (hc : ∀ p v, o' ≤ p → p < o' + es.length → w.cell? ⟨b', p, none⟩ = some v → w'.cell? ⟨b', p, none⟩ = some v)
    (h : RelRow w (zz objs β Z) es x b' o') : RelRow w' (zz objs' β' Z) es x b' o' :=
  RelRow.step t.step t.hown t.zsub es x b' o' hc h
theorem relO (t : Turn w Z β U objs w' β' objs' b o id L) (ho : RelObj w' (zz objs' β' Z) β' (fun j => if j = id then some L else U j) id (objs' id)) : RelO w' Z β' (fun j => if j = id then some L else U j) objs' := by
  have hnz : ¬ Z b := fun hz => by
    rcases t.old with h | h
    · exact t.rel.apart b hz h
    · exact absurd (t.rel.zlt b hz) (by omega)
  refine ⟨fun j => ?_, fun i j x q q' hi hj h1 h2 => ?_, fun j hj => ?_, fun x hx => Nat.lt_of_lt_of_le (t.rel.zlt x hx) t.step.size, fun x hx hown => ?_⟩
  · by_cases e : j = id
    · subst e; exact ho
    · rcases t.other j e with h | h
      · have hr := t.rel.obj j
        have hap := t.apart j e
        rw [h] at hap ⊢
        cases hoj : objs j with
        | dead => trivial
        | box cs =>
          rw [hoj] at hr hap
          obtain ⟨bj, oj, h1, h2, h3, h4⟩ := hr
          have hne : bj ≠ b := fun q => hap rfl oj (by rw [h1, q])
          refine ⟨bj, oj, by rw [t.else_ j e]; exact h1, Nat.lt_of_lt_of_le h2 t.step.size, fun p => by rw [t.step.frozen bj p h2]; exact h3 p, fun i x hx => ?_⟩
          obtain ⟨v, hv, hr⟩ := h4 i x hx
          exact ⟨v, t.step.cell (by simpa using hne) hv, t.tv hr⟩
        | arr e' es xs =>
          rw [hoj] at hr hap
          obtain ⟨hu, hr⟩ := hr
          refine ⟨t.usub j _ hu, ?_⟩
          rcases hr with ⟨h1, h2⟩ | ⟨bj, cur, h1, h2, h3⟩
          · exact .inl ⟨h1, by rw [t.else_ j e]; exact h2⟩
          · have hlt : bj < w.heap.size := (Array.getElem?_eq_some_iff.1 h2).1
            have hne : bj ≠ b := fun q => hap rfl 0 (by rw [h1, q])
            exact .inr ⟨bj, cur, by rw [t.else_ j e]; exact h1, by rw [t.step.block bj hlt hne]; exact h2, fun i x hx => t.row (fun p v _ _ hv => t.step.cell (by simpa using hne) hv) (h3 i x hx)⟩
      · rw [h]; trivial
  · have main : ∀ i j q q', (objs' i).alive = true → (objs' j).alive = true → i ≠ id → β' i = some (x, q) → β' j = some (x, q') → i = j := by
      intro i j q q' hi hj ei h1 h2
      rw [t.else_ i ei] at h1
      have hi' : (objs i).alive = true := by rcases t.other i ei with h | h <;> rw [h] at hi <;> first | exact hi | cases hi
      by_cases ej : j = id
      · subst ej
        rw [t.at_] at h2
        cases h2
        exact absurd h1 (t.apart i ei hi q)
      · rw [t.else_ j ej] at h2
        have hj' : (objs j).alive = true := by rcases t.other j ej with h | h <;> rw [h] at hj <;> first | exact hj | cases hj
        exact t.rel.inj i j x q q' hi' hj' h1 h2
    by_cases ei : i = id
    · by_cases ej : j = id
      · rw [ei, ej]
      · exact (main j i q' q hj hi ej h2 h1).symm
    · exact main i j q q' hi hj ei h1 h2
  · by_cases e : j = id
    · rw [if_pos e] at hj; cases hj
    · rw [if_neg e] at hj
      rcases t.other j e with h | h
      · rw [h]; exact t.rel.lim j hj
      · exact h
  · obtain ⟨j, q, hal, hβ⟩ := hown
    by_cases e : j = id
    · subst e
      rw [t.at_] at hβ
      cases hβ
      exact hnz hx
    · refine t.rel.apart x hx ⟨j, q, ?_, by rw [← t.else_ j e]; exact hβ⟩
      rcases t.other j e with h | h <;> rw [h] at hal <;> first | exact hal | cases hal
end Turn

/-- Some objects have gone. -/
theorem own_kill {objs objs' : Nat → Obj} {β : Beta} (h : ∀ j, objs' j = objs j ∨ objs' j = .dead) {b : Nat} (hb : own objs' β b) : own objs β b := by
  obtain ⟨j, q, hal, hβ⟩ := hb
  rcases h j with h | h <;> rw [h] at hal
  · exact ⟨j, q, hal, hβ⟩
  · cases hal
theorem RelT.kill {w : World} {Z : Nat → Prop} {β : Beta} {U : Nat → Option Nat} {objs objs' : Nat → Obj} (h : ∀ j, objs' j = objs j ∨ objs' j = .dead) {x : TV} {v : Value}
    (r : RelT w (zz objs β Z) β U x v) : RelT w (zz objs' β Z) β U x v :=
  RelT.step (own := fun _ => False) (WStep.refl _ w) (fun _ _ q => q.elim) (fun _ _ q => q.imp id (own_kill h)) (fun _ _ => rfl) (fun _ _ h => h) x v r
theorem RelRow.kill {w : World} {Z : Nat → Prop} {β : Beta} {objs objs' : Nat → Obj} (h : ∀ j, objs' j = objs j ∨ objs' j = .dead) {es : List Leaf} {x : Row es} {b o : Nat}
    (r : RelRow w (zz objs β Z) es x b o) : RelRow w (zz objs' β Z) es x b o :=
  RelRow.step (own := fun _ => False) (WStep.refl _ w) (fun _ _ q => q.elim) (fun _ _ q => q.imp id (own_kill h)) es x b o (fun _ _ _ _ h => h) r
theorem RelO.kill {w : World} {Z : Nat → Prop} {β : Beta} {U : Nat → Option Nat} {objs objs' : Nat → Obj} (h : RelO w Z β U objs) (hk : ∀ j, objs' j = objs j ∨ objs' j = .dead) : RelO w Z β U objs' := by
  have hal : ∀ j, (objs' j).alive = true → (objs j).alive = true := fun j hj => by rcases hk j with h | h <;> rw [h] at hj <;> first | exact hj | cases hj
  refine ⟨fun j => ?_, fun i j b q q' hi hj => h.inj i j b q q' (hal i hi) (hal j hj), fun j hj => ?_, h.zlt, fun b hb ho => h.apart b hb (own_kill hk ho)⟩
  · rcases hk j with e | e
    · have hr := h.obj j
      rw [e]
      cases ho : objs j with
      | dead => trivial
      | box cs =>
        rw [ho] at hr
        obtain ⟨b, o, h1, h2, h3, h4⟩ := hr
        exact ⟨b, o, h1, h2, h3, fun i x hx => let ⟨v, hv, hr⟩ := h4 i x hx; ⟨v, hv, hr.kill hk⟩⟩
      | arr e es xs =>
        rw [ho] at hr
        exact ⟨hr.1, hr.2.imp (fun q => q) fun ⟨b, cur, h1, h2, h3⟩ => ⟨b, cur, h1, h2, fun i x hx => (h3 i x hx).kill hk⟩⟩
    · rw [e]; trivial
  · rcases hk j with e | e
    · rw [e]; exact h.lim j hj
    · exact e
end Go.Te
set_option linter.unusedVariables false
set_option linter.unusedSimpArgs false
namespace Go.Te
open Go.RowKit

/-! ### 13. Lists of values -/
section
variable {w : World} {Z : Nat → Prop} {β : Beta} {U : Nat → Option Nat}
theorem relTs_len : ∀ {xs : List TV} {vs : List Value}, RelTs w Z β U xs vs → xs.length = vs.length
  | [], _, h => by simp only [RelTs] at h; subst h; rfl
  | _ :: xs, _, h => by
    simp only [RelTs] at h
    obtain ⟨v, vs', rfl, _, h2⟩ := h
    simp [relTs_len h2]
theorem relTs_get : ∀ {xs : List TV} {vs : List Value}, RelTs w Z β U xs vs → ∀ (i : Nat) x, xs[i]? = some x → ∃ v, vs[i]? = some v ∧ RelT w Z β U x v
  | [], _, _, i, x, hi => by simp at hi
  | y :: xs, _, h, i, x, hi => by
    simp only [RelTs] at h
    obtain ⟨v, vs', rfl, h1, h2⟩ := h
    cases i with
    | zero => simp at hi; subst hi; exact ⟨v, rfl, h1⟩
    | succ i => simpa using relTs_get h2 i x (by simpa using hi)
theorem relTs_of : ∀ {xs : List TV} {vs : List Value}, xs.length = vs.length → (∀ (i : Nat) x v, xs[i]? = some x → vs[i]? = some v → RelT w Z β U x v) → RelTs w Z β U xs vs
  | [], [], _, _ => rfl
  | x :: xs, v :: vs, hl, h => by
    simp only [RelTs]
    exact ⟨v, vs, rfl, h 0 x v rfl rfl, relTs_of (by simpa using hl) fun i x v hx hv => h (i + 1) x v (by simpa using hx) (by simpa using hv)⟩
  | [], _ :: _, hl, _ => by simp at hl
  | _ :: _, [], hl, _ => by simp at hl
theorem relTs_append : ∀ {xs ys : List TV} {vs us : List Value}, RelTs w Z β U xs vs → RelTs w Z β U ys us → RelTs w Z β U (xs ++ ys) (vs ++ us)
  | [], _, _, _, h, h' => by simp only [RelTs] at h; subst h; exact h'
  | _ :: _, _, _, _, h, h' => by
    simp only [RelTs] at h
    obtain ⟨v, vs', rfl, h1, h2⟩ := h
    simp only [List.cons_append, RelTs]
    exact ⟨v, _, rfl, h1, relTs_append h2 h'⟩
theorem relTs_take {xs : List TV} {vs : List Value} (h : RelTs w Z β U xs vs) (n : Nat) : RelTs w Z β U (xs.take n) (vs.take n) := by
  refine relTs_of (by simp [relTs_len h]) fun i x v hx hv => ?_
  simp only [List.getElem?_take] at hx hv
  split at hx
  · rename_i hi
    rw [if_pos hi] at hv
    obtain ⟨v', hv', hr⟩ := relTs_get h i x hx
    rw [hv] at hv'
    cases hv'
    exact hr
  · cases hx
theorem relTs_drop {xs : List TV} {vs : List Value} (h : RelTs w Z β U xs vs) (n : Nat) : RelTs w Z β U (xs.drop n) (vs.drop n) := by
  refine relTs_of (by simp [relTs_len h]) fun i x v hx hv => ?_
  simp only [List.getElem?_drop] at hx hv
  obtain ⟨v', hv', hr⟩ := relTs_get h _ x hx
  rw [hv] at hv'
  cases hv'
  exact hr

theorem tvOf_rel (v : Value) : RelT w Z β U (tvOf v) v := by
  cases v with
  | slice a n c =>
    cases a with
    | none =>
      cases n with
      | zero => cases c <;> simp [tvOf, RelT, Value.oneCell']
      | succ n => simp [tvOf, RelT, Value.oneCell']
    | some a => simp [tvOf, RelT, Value.oneCell']
  | _ => simp [tvOf, RelT, RelL, Value.oneCell']
theorem tvOf_rels (vs : List Value) : RelTs w Z β U (vs.map tvOf) vs :=
  relTs_of (by simp) fun i x v hx hv => by
    simp only [List.getElem?_map, hv, Option.map_some, Option.some.injEq] at hx
    subst hx
    exact tvOf_rel v

theorem cellsT_rel {x : TV} {v : Value} {cs : List TV} (h : RelT w Z β U x v) (hc : cellsT x = some cs) : RelTs w Z β U cs v.cells.toList := by
  have single : ∀ {x : TV}, RelT w Z β U x v → (∀ vs, v ≠ .agg vs) → RelTs w Z β U [x] v.cells.toList := by
    intro x hx hne
    have : v.cells = #[v] := by cases v <;> first | rfl | exact absurd rfl (hne _)
    rw [this]
    simp only [RelTs]
    exact ⟨v, [], rfl, hx, rfl⟩
  cases x with
  | dead => cases hc
  | tup xs => cases hc
  | agg xs =>
    cases hc
    simp only [RelT] at h
    obtain ⟨vs, rfl, hr⟩ := h
    exact hr
  | d l y =>
    cases hc
    refine single h fun vs e => ?_
    subst e
    cases l <;> simp [RelT, RelL] at h
  | nil => cases hc; refine single h fun vs e => ?_; subst e; simp [RelT] at h
  | ptr id off => cases hc; refine single h fun vs e => ?_; subst e; simp [RelT] at h
  | eptr id k i j => cases hc; refine single h fun vs e => ?_; subst e; simp [RelT] at h
  | dptr es y j => cases hc; refine single h fun vs e => ?_; subst e; simp [RelT] at h
  | arr id k n => cases hc; refine single h fun vs e => ?_; subst e; simp [RelT] at h
  | arrF id k => cases hc; refine single h fun vs e => ?_; subst e; simp [RelT] at h
  | fn f caps => cases hc; refine single h fun vs e => ?_; subst e; simp [RelT] at h
  | raw u => cases hc; refine single h fun vs e => ?_; subst e; simp only [RelT] at h; rw [← h.1] at h; exact absurd h.2 (by simp [Value.oneCell'])
end

/-! ### 14. Steps of the world -/
theorem wstep_alloc (own : Nat → Prop) (w : World) (c : Array Value) (t : TypeId) : WStep own w (w.alloc (.cells c t)) := by
  have hh : ∀ k, k < w.heap.size → (w.alloc (.cells c t)).heap[k]? = w.heap[k]? := fun k hk => Below.heap_alloc w _ k hk
  exact ⟨rfl, rfl, rfl, by simp, fun b hb _ => hh b hb, fun b hb => by simp [World.shape?, hh b hb], fun b o hb => by simp [World.frozen?, hh b hb]⟩
theorem wstep_drew {own : Nat → Prop} {w w' : World} (h : WStep own w w') : WStep own w w'.drew := ⟨h.os, h.tape, h.output, h.size, h.block, h.shape, h.frozen⟩

theorem shape_setCell (w : World) (a : Addr) (v : Value) (b : Nat) : (w.setCell a v).shape? b = w.shape? b := by
  simp only [World.shape?, World.setCell, Array.getElem?_modify]
  by_cases h : a.block = b
  · rw [if_pos h]
    cases hh : w.heap[b]? with
    | none => simp
    | some o =>
      cases o <;> simp
      split <;> simp
  · rw [if_neg h]
theorem setCells_step (b : Nat) : ∀ (vs : List Value) (o : Nat) (w : World), WStep (fun x => x = b) w (w.setCells b o vs)
  | [], _, _ => WStep.refl _ _
  | v :: vs, o, w => by
    refine WStep.trans (own' := fun x => x = b) (b := w.setCell ⟨b, o, none⟩ v) ?_ (setCells_step b vs (o + 1) (w.setCell ⟨b, o, none⟩ v)) (fun _ _ h => h)
    exact ⟨rfl, rfl, rfl, by simp, fun x _ hx => Below.heap_setCell w ⟨b, o, none⟩ v x hx, fun x _ => shape_setCell w _ v x, fun x p _ => by simp⟩

theorem addr_add (b o j : Nat) : (⟨b, o, none⟩ : Addr).add j = ⟨b, o + j, none⟩ := by unfold Addr.add; split <;> simp_all

/-! ### 15. What an operation does -/
structure Fit (w : World) (β : Beta) (U : Nat → Option Nat) (objs : Nat → Obj) (w' : World) (β' : Beta) (U' : Nat → Option Nat) (objs' : Nat → Obj) (lo hi : Nat) : Prop where
  step : WStep (own objs β) w w'
  own : ∀ x, x < w.heap.size → own objs' β' x → own objs β x
  le : Beta.le U β β'
  sub : ∀ id l, U id = some l → U' id = some l
  lim : ∀ id, (U' id).isSome = true → (U id).isSome = true ∨ (lo ≤ id ∧ id < hi)

theorem Fit.refl (w : World) (β : Beta) (U : Nat → Option Nat) (objs : Nat → Obj) (lo hi : Nat) : Fit w β U objs w β U objs lo hi :=
  ⟨WStep.refl _ _, fun _ _ h => h, fun _ _ => rfl, fun _ _ h => h, fun _ h => .inl h⟩
theorem Fit.kill {w : World} {β : Beta} {U : Nat → Option Nat} {objs objs' : Nat → Obj} (lo hi : Nat) (hk : ∀ j, objs' j = objs j ∨ objs' j = .dead) : Fit w β U objs w β U objs' lo hi :=
  ⟨WStep.refl _ _, fun _ _ h => own_kill hk h, fun _ _ => rfl, fun _ _ h => h, fun _ h => .inl h⟩
theorem Fit.tv {w w' : World} {β β' : Beta} {U U' : Nat → Option Nat} {objs objs' : Nat → Obj} {lo hi : Nat} {Z : Nat → Prop} (f : Fit w β U objs w' β' U' objs' lo hi) {x : TV} {v : Value}
    (h : RelT w (zz objs β Z) β U x v) : RelT w' (zz objs' β' Z) β' U' x v :=
  RelT.step f.step (fun _ _ h => .inr h) (fun x hx h => h.imp (fun q => q) (f.own x hx)) f.le f.sub x v h
theorem Fit.trans {w w1 w2 : World} {β β1 β2 : Beta} {U U1 U2 : Nat → Option Nat} {objs objs1 objs2 : Nat → Obj} {lo hi : Nat} (f : Fit w β U objs w1 β1 U1 objs1 lo hi) (g : Fit w1 β1 U1 objs1 w2 β2 U2 objs2 lo hi) : Fit w β U objs w2 β2 U2 objs2 lo hi :=
  ⟨f.step.trans g.step f.own, fun x hx h => f.own x hx (g.own x (Nat.lt_of_lt_of_le hx f.step.size) h), fun id h => (g.le id (isSome_of f.sub h)).trans (f.le id h), fun id l h => g.sub id l (f.sub id l h), fun id h => (g.lim id h).elim (f.lim id) .inr⟩

/-- A value is told; the objects turn so. -/
def Tells (P : Program) (S : Sem Value) (w : World) (Z : Nat → Prop) (β : Beta) (U : Nat → Option Nat) (objs : Nat → Obj) (id0 : Nat) (e : Eff) : Prop :=
  ∃ v w' β' U', S.run P w = .ok v w' ∧ RelT w' (zz (e.objs objs id0) β' Z) β' U' e.v v ∧ RelO w' Z β' U' (e.objs objs id0) ∧ Fit w β U objs w' β' U' (e.objs objs id0) id0 (id0 + 32)

section
variable {P : Program} {w : World} {Z : Nat → Prop} {β : Beta} {U : Nat → Option Nat} {objs : Nat → Obj} {id0 : Nat}

theorem tells_quiet {S : Sem Value} {t : TV} {v : Value} (hO : RelO w Z β U objs) (hr : S.run P w = .ok v w) (ht : RelT w (zz objs β Z) β U t v) : Tells P S w Z β U objs id0 { v := t } :=
  ⟨v, w, β, U, hr, ht, hO, Fit.refl _ _ _ _ _ _⟩

theorem fit_turn {w' : World} {β' : Beta} {objs' : Nat → Obj} {b o : Nat} {id L : Nat} (t : Turn w Z β U objs w' β' objs' b o id L) (lo hi : Nat) (hid : (U id).isSome = true ∨ (lo ≤ id ∧ id < hi)) : Fit w β U objs w' β' (fun j => if j = id then some L else U j) objs' lo hi :=
  ⟨t.step.mono (fun x hx e => by subst e; exact t.old.elim (fun h => h) (fun h => absurd hx (by omega))), t.own_sub, t.le, t.usub, fun j h => by
    by_cases e : j = id
    · subst e; exact hid
    · rw [if_neg e] at h; exact .inl h⟩

/-- A new block, and an object in it. -/
theorem turn_new (hO : RelO w Z β U objs) (hid : U id0 = none) (c : Array Value) (t : TypeId) (L : Nat) (objs1 : Nat → Obj) (hk : ∀ j, j ≠ id0 → objs1 j = objs j ∨ objs1 j = .dead) :
    Turn w Z β U objs (w.alloc (.cells c t)) (fun j => if j = id0 then some (w.heap.size, 0) else β j) objs1 w.heap.size 0 id0 L := by
  refine ⟨hO, wstep_alloc _ w c t, .inr (Nat.le_refl _), by simp, hk, fun j hj hal q e => ?_, by simp, fun j hj => by simp [hj], fun l h => by rw [hid] at h; cases h⟩
  have hal' : (objs j).alive = true := by rcases hk j hj with h | h <;> rw [h] at hal <;> first | exact hal | cases hal
  exact absurd (own_lt hO ⟨j, q, hal', e⟩) (by omega)

theorem new_box (hO : RelO w Z β U objs) (hid : U id0 = none) {cs : List TV} {vs : Array Value} (t : TypeId) (hc : RelTs w (zz objs β Z) β U cs vs.toList) :
    ∃ β' U', RelO (w.alloc (.cells vs t)) Z β' U' (addO objs id0 [.box cs]) ∧ Fit w β U objs (w.alloc (.cells vs t)) β' U' (addO objs id0 [.box cs]) id0 (id0 + 32) ∧
      RelT (w.alloc (.cells vs t)) (zz (addO objs id0 [.box cs]) β' Z) β' U' (.ptr id0 0) (.pointer (some ⟨w.heap.size, 0, none⟩)) := by
  have ha : ∀ j, addO objs id0 [.box cs] j = if j = id0 then .box cs else objs j := fun j => by
    simp [addO, beq_if]
  have t := turn_new hO hid vs t 0 (addO objs id0 [.box cs]) (fun j hj => .inl (by rw [ha, if_neg hj]))
  refine ⟨_, _, t.relO ?_, fit_turn t _ _ (.inr ⟨Nat.le_refl _, by omega⟩), ?_⟩
  · rw [ha, if_pos rfl]
    refine ⟨w.heap.size, 0, by simp, by simp, fun p => by simp, fun i x hx => ?_⟩
    obtain ⟨v, hv, hr⟩ := relTs_get hc i x hx
    exact ⟨v, by simpa using hv, t.tv hr⟩
  · simp only [RelT]
    exact ⟨by simp, w.heap.size, 0, by simp, by simp⟩
end
end Go.Te
set_option linter.unusedVariables false
set_option linter.unusedSimpArgs false
namespace Go.Te
open Go.RowKit

/-! ### 16. Rows and their cells -/
section
variable {w : World} {Z : Nat → Prop}
theorem leaves_len : ∀ (es : List Leaf) (x : Row es), (leaves es x).length = es.length
  | [], _ => rfl
  | [_], _ => rfl
  | _ :: l' :: ls, x => by simp [leaves, leaves_len (l' :: ls) x.2]
theorem leaves_at : ∀ (es : List Leaf) (x : Row es) (b o : Nat), RelRow w Z es x b o → ∀ (i : Nat) a, (leaves es x)[i]? = some a → ∃ u, w.cell? ⟨b, o + i, none⟩ = some u ∧ RelL w Z a.l a.x u
  | [], _, _, _, _, i, a, h => by simp [leaves] at h
  | [l], x, b, o, r, i, a, h => by
    cases i with
    | zero => simp [leaves] at h; subst h; simpa [RelRow] using r
    | succ i => simp [leaves] at h
  | l :: l' :: ls, x, b, o, r, i, a, h => by
    simp only [RelRow] at r
    cases i with
    | zero => simp [leaves] at h; subst h; exact r.1
    | succ i =>
      have := leaves_at (l' :: ls) x.2 b (o + 1) r.2 i a (by simpa [leaves] using h)
      rwa [show o + 1 + i = o + (i + 1) by omega] at this
theorem cast_rel {l l' : Leaf} {x : l.T} {y : l'.T} (h : Leaf.cast l l' x = some y) {u : Value} (r : RelL w Z l x u) : RelL w Z l' y u := by
  unfold Leaf.cast at h
  split at h
  · rename_i hs
    have e := Leaf.eq_of_same l l' hs
    subst e
    cases h
    exact r
  · cases h
theorem rowOf_rel : ∀ (es : List Leaf) (as : List LV) (y : Row es), rowOf es as = some y → ∀ b o, (∀ (i : Nat) a, as[i]? = some a → ∃ u, w.cell? ⟨b, o + i, none⟩ = some u ∧ RelL w Z a.l a.x u) → RelRow w Z es y b o
  | [], _, _, _, _, _, _ => trivial
  | [l], as, y, h, b, o, r => by
    match as, h, r with
    | [a], h, r =>
      rw [rowOf_one] at h
      obtain ⟨u, hu, hr⟩ := r 0 a rfl
      exact ⟨u, by simpa using hu, cast_rel h hr⟩
    | [], h, _ => rw [rowOf_one0] at h; cases h
    | _ :: _ :: _, h, _ => rw [rowOf_one2] at h; cases h
  | l :: l' :: ls, as, y, h, b, o, r => by
    match as, h, r with
    | a :: as, h, r =>
      rw [rowOf_cons] at h
      obtain ⟨y1, h1, h⟩ := Option.bind_eq_some_iff.1 h
      obtain ⟨y2, h2, h3⟩ := Option.bind_eq_some_iff.1 h
      cases h3
      obtain ⟨u, hu, hr⟩ := r 0 a rfl
      refine ⟨⟨u, by simpa using hu, cast_rel h1 hr⟩, rowOf_rel (l' :: ls) as y2 h2 b (o + 1) fun i a' ha => ?_⟩
      have := r (i + 1) a' (by simpa using ha)
      rwa [show o + (i + 1) = o + 1 + i by omega] at this
    | [], h, _ => rw [rowOf_cons0] at h; cases h
theorem rowOf_len : ∀ (es : List Leaf) (as : List LV) (y : Row es), rowOf es as = some y → as.length = es.length
  | [], as, _, h => by
    match as, h with
    | [], _ => rfl
    | _ :: _, h => rw [rowOf_none] at h; cases h
  | [_], as, _, h => by
    match as, h with
    | [_], _ => rfl
    | [], h => rw [rowOf_one0] at h; cases h
    | _ :: _ :: _, h => rw [rowOf_one2] at h; cases h
  | _ :: l' :: ls, as, y, h => by
    match as, h with
    | a :: as, h =>
      rw [rowOf_cons] at h
      obtain ⟨y1, h1, h⟩ := Option.bind_eq_some_iff.1 h
      obtain ⟨y2, h2, h3⟩ := Option.bind_eq_some_iff.1 h
      simp [rowOf_len (l' :: ls) as y2 h2]
    | [], h => rw [rowOf_cons0] at h; cases h
theorem rowsOf_rel (es : List Leaf) : ∀ (n : Nat) (as : List LV) (ys : List (Row es)), rowsOf es n as = some ys → ys.length = n ∧ as.length = n * es.length ∧
    ∀ b o, (∀ (i : Nat) a, as[i]? = some a → ∃ u, w.cell? ⟨b, o + i, none⟩ = some u ∧ RelL w Z a.l a.x u) → ∀ (i : Nat) y, ys[i]? = some y → RelRow w Z es y b (o + i * es.length)
  | 0, as, ys, h => by
    match as, h with
    | [], h => simp [rowsOf] at h; subst h; simp
    | _ :: _, h => simp [rowsOf] at h
  | n + 1, as, ys, h => by
    simp only [rowsOf, Option.bind_eq_some_iff] at h
    obtain ⟨y1, h1, ys2, h2, h3⟩ := h
    cases h3
    have hl := rowOf_len es _ _ h1
    obtain ⟨i1, i2, i3⟩ := rowsOf_rel es n _ ys2 h2
    simp only [List.length_take, List.length_drop] at hl i2
    have hn : (n + 1) * es.length = n * es.length + es.length := Nat.succ_mul _ _
    refine ⟨by simp [i1], by omega, fun b o r i y hy => ?_⟩
    cases i with
    | zero =>
      simp at hy
      subst hy
      refine rowOf_rel es _ _ h1 b _ fun j a ha => ?_
      rw [List.getElem?_take] at ha
      split at ha
      · simpa using r j a ha
      · cases ha
    | succ i =>
      have := i3 b (o + es.length) (fun j a ha => by
        rw [List.getElem?_drop] at ha
        have := r _ a ha
        rwa [show o + (es.length + j) = o + es.length + j by omega] at this) i y (by simpa using hy)
      rwa [show o + es.length + i * es.length = o + (i + 1) * es.length by rw [Nat.succ_mul]; omega] at this
end

section
variable {P : Program} {T : Nat → Option TI} {w : World} {Z : Nat → Prop} {β : Beta} {U : Nat → Option Nat} {objs : Nat → Obj} {id0 : Nat} {rd : List Nat} {e : Eff}

theorem runs_ofOpt {A B : Type} {o : Option A} {f : A → Prog B} {b : B} (h : ((ofOpt o).bind f).Runs objs rd b) : ∃ x, o = some x ∧ (f x).Runs objs rd b := by
  obtain ⟨x, hx, hr⟩ := h
  exact ⟨x, hx, hr⟩
theorem runs_need {B : Type} {c : Bool} {f : Unit → Prog B} {b : B} (h : ((need c).bind f).Runs objs rd b) : c = true ∧ (f ()).Runs objs rd b := h

/-! ### 17. Allocation -/
theorem alloc_ok (hT : TOk P T) (hO : RelO w Z β U objs) (hid : U id0 = none) {t : TypeId} (h : (evAlloc T id0 t).Runs objs rd e) : Tells P (Instr.alloc t true (.tuple #[])) w Z β U objs id0 e := by
  obtain ⟨ti, ht, h⟩ := runs_ofOpt h
  obtain ⟨rfl, rfl⟩ := h
  obtain ⟨_, i, hi, ⟨_, _, hz⟩, _⟩ := hT t ti ht
  obtain ⟨β', U', h1, h2, h3⟩ := new_box hO hid t (tvOf_rels (w := w) (Z := zz objs β Z) (β := β) (U := U) ti.zero.cells.toList)
  exact ⟨_, _, β', U', by simp [Instr.alloc, zeroValue, typeInfo, hi, hz, newVar, newRow], h3, h1, h2⟩
theorem box_ok (hO : RelO w Z β U objs) (hid : U id0 = none) {t : TypeId} {x : TV} {v : Value} (hx : RelT w (zz objs β Z) β U x v) (h : (evBox id0 x).Runs objs rd e) :
    Tells P (Instr.box t v) w Z β U objs id0 e := by
  obtain ⟨cs, hc, h⟩ := runs_ofOpt h
  obtain ⟨rfl, rfl⟩ := h
  obtain ⟨β', U', h1, h2, h3⟩ := new_box hO hid t (cellsT_rel hx hc)
  exact ⟨_, _, β', U', by simp [Instr.box, newVar, newRow], h3, h1, h2⟩

/-! ### 18. Loads -/
theorem cellsAt_ok {size : Nat} {x : TV} {v : Value} {cs : List TV} (hO : RelO w Z β U objs) (hx : RelT w (zz objs β Z) β U x v) (h : (cellsAt size x).Runs objs rd cs) :
    ∃ b o, v = .pointer (some ⟨b, o, none⟩) ∧ cs.length = size ∧ ∀ (i : Nat) c, cs[i]? = some c → ∃ u, w.cell? ⟨b, o + i, none⟩ = some u ∧ RelT w (zz objs β Z) β U c u := by
  have part : ∀ {es : List Leaf} {y : Row es} {b o j : Nat}, RelRow w (zz objs β Z) es y b o → j + size ≤ es.length → cs = (((leaves es y).map LV.tv).drop j).take size →
      cs.length = size ∧ ∀ (i : Nat) c, cs[i]? = some c → ∃ u, w.cell? ⟨b, o + j + i, none⟩ = some u ∧ RelT w (zz objs β Z) β U c u := by
    intro es y b o j hr hl hc
    subst hc
    refine ⟨by simp [leaves_len]; omega, fun i c hi => ?_⟩
    rw [List.getElem?_take] at hi
    split at hi
    · rw [List.getElem?_drop, List.getElem?_map] at hi
      cases ha : (leaves es y)[j + i]? with
      | none => simp [ha] at hi
      | some a =>
        simp only [ha, Option.map_some, Option.some.injEq] at hi
        subst hi
        obtain ⟨u, hu, hr⟩ := leaves_at es y b o hr _ a ha
        exact ⟨u, by rwa [show o + j + i = o + (j + i) by omega], by simpa [LV.tv, RelT] using hr⟩
    · cases hi
  cases x with
  | ptr id off =>
    simp only [RelT] at hx
    obtain ⟨hU, b, o, hb, rfl⟩ := hx
    simp only [cellsAt] at h
    obtain ⟨rd', _, h⟩ := h
    have hr := hO.obj id
    cases ho : objs id with
    | dead => rw [ho] at h; exact h.elim
    | arr _ _ _ => rw [ho] at h; exact h.elim
    | box old =>
      rw [ho] at h hr
      obtain ⟨hn, h⟩ := runs_need h
      obtain ⟨rfl, _⟩ := h
      obtain ⟨b', o', h1, h2, h3, h4⟩ := hr
      rw [hb] at h1
      cases h1
      simp at hn
      refine ⟨b, o + off, rfl, by simp; omega, fun i c hi => ?_⟩
      rw [List.getElem?_take] at hi
      split at hi
      · rw [List.getElem?_drop] at hi
        obtain ⟨u, hu, hr⟩ := h4 _ c hi
        exact ⟨u, by rwa [show o + off + i = o + (off + i) by omega], hr⟩
      · cases hi
  | eptr id k i j =>
    simp only [RelT] at hx
    obtain ⟨hU, b, o, hb, rfl⟩ := hx
    simp only [cellsAt] at h
    obtain ⟨rd', _, h⟩ := h
    have hr := hO.obj id
    cases ho : objs id with
    | dead => rw [ho] at h; exact h.elim
    | box _ => rw [ho] at h; exact h.elim
    | arr e es xs =>
      rw [ho] at h hr
      obtain ⟨hn, h⟩ := runs_need h
      obtain ⟨y, hy, h⟩ := runs_ofOpt h
      obtain ⟨hc, _⟩ := h
      simp at hn
      obtain ⟨rfl, hn⟩ := hn
      rcases hr.2 with ⟨rfl, _⟩ | ⟨b', cur, h1, h2, h3⟩
      · simp at hy
      · rw [hb] at h1
        cases h1
        have := part (h3 i y hy) hn hc
        exact ⟨b, _, rfl, this.1, by simpa using this.2⟩
  | dptr es y j =>
    simp only [RelT] at hx
    obtain ⟨b, o, _, _, rfl, hr⟩ := hx
    simp only [cellsAt] at h
    obtain ⟨hn, h⟩ := runs_need h
    obtain ⟨hc, _⟩ := h
    simp at hn
    have := part hr hn hc
    exact ⟨b, _, rfl, this.1, this.2⟩
  | _ => exact h.elim

theorem isAgg_run (hT : TOk P T) {t : TypeId} {ti : TI} (ht : T t = some ti) : (isAgg t).run P w = .ok ti.agg w := by
  obtain ⟨hu, _⟩ := hT t ti ht
  have : (underlying t).run P w = .ok ti.desc w := by simp [underlying, hu]
  unfold isAgg TI.agg
  simp only [Sem.run_bind, this, Result.andThen_ok]
  cases ti.desc <;> simp
theorem sizeOf_run (hT : TOk P T) {t : TypeId} {ti : TI} (ht : T t = some ti) : (sizeOf t).run P w = .ok ti.size w := by
  obtain ⟨_, i, hi, ⟨hs, _⟩, _⟩ := hT t ti ht
  simp [sizeOf, typeInfo, hi, hs]
theorem und_run (hT : TOk P T) {t : TypeId} {ti : TI} (ht : T t = some ti) : (underlying t).run P w = .ok ti.desc w := by
  obtain ⟨hu, _⟩ := hT t ti ht
  simp [underlying, hu]

theorem load_q (hT : TOk P T) (hO : RelO w Z β U objs) {t : TypeId} {x : TV} {v : Value} (hx : RelT w (zz objs β Z) β U x v) (h : (evLoad T t x).Runs objs rd e) :
    ∃ u b o, v = .pointer (some ⟨b, o, none⟩) ∧ (Instr.loadAt t v).run P w = .ok u w ∧ RelT w (zz objs β Z) β U e.v u ∧ e = { v := e.v } := by
  obtain ⟨ti, ht, h⟩ := runs_ofOpt h
  cases ha : ti.agg with
  | true =>
    rw [ha] at h
    obtain ⟨rd1, rd2, cs, h1, h2, _⟩ := Prog.runs_bind _ _ h
    obtain ⟨rfl, _⟩ := h2
    obtain ⟨b, o, rfl, hl, hc⟩ := cellsAt_ok hO hx h1
    obtain ⟨us, hus⟩ : ∃ us : List Value, us.length = cs.length ∧ ∀ (i : Nat) c, cs[i]? = some c → ∃ u, us[i]? = some u ∧ w.cell? ⟨b, o + i, none⟩ = some u ∧ RelT w (zz objs β Z) β U c u := by
      refine ⟨(List.range cs.length).map fun i => (w.cell? ⟨b, o + i, none⟩).getD undef, by simp, fun i c hi => ?_⟩
      obtain ⟨u, hu, hr⟩ := hc i c hi
      have hlt : i < cs.length := (List.getElem?_eq_some_iff.1 hi).1
      exact ⟨u, by simp [hlt, hu], hu, hr⟩
    obtain ⟨hlen, hus⟩ := hus
    have hload : (loadCells ⟨b, o, none⟩ us.length).run P w = .ok us.toArray w := run_loadCells_list w _ us fun j u hj => by
      have hlt : j < cs.length := by rw [← hlen]; exact (List.getElem?_eq_some_iff.1 hj).1
      obtain ⟨u', h1, h2, _⟩ := hus j cs[j] (by simp [hlt])
      rw [hj] at h1
      cases h1
      rw [addr_add]
      exact h2
    refine ⟨.agg us.toArray, b, o, rfl, ?_, ?_, rfl⟩
    · have e : us.length = ti.size := by omega
      simp only [Instr.loadAt, Instr.sureAddr, loadVar, Sem.run_bind, Sem.run_pure, Result.andThen_ok, isAgg_run hT ht, ha, if_true, sizeOf_run hT ht, ← e, hload]
    · simp only [RelT]
      refine ⟨_, rfl, relTs_of (by simp [hlen]) fun i c u hi hu => ?_⟩
      obtain ⟨u', h1, _, hr⟩ := hus i c hi
      rw [hu] at h1
      cases h1
      exact hr
  | false =>
    rw [ha] at h
    obtain ⟨rd1, rd2, cs, h1, h2, _⟩ := Prog.runs_bind _ _ h
    obtain ⟨b, o, rfl, hl, hc⟩ := cellsAt_ok hO hx h1
    match cs, hl with
    | [c], _ =>
      obtain ⟨rfl, _⟩ := h2
      obtain ⟨u, hu, hr⟩ := hc 0 c rfl
      refine ⟨u, b, o, rfl, ?_, hr, rfl⟩
      simp only [Instr.loadAt, Instr.sureAddr, loadVar, Sem.run_bind, Sem.run_pure, Result.andThen_ok, isAgg_run hT ht, ha]
      simp only [Nat.add_zero] at hu
      simp [hu]
theorem load_ok (hT : TOk P T) (hO : RelO w Z β U objs) {t : TypeId} {x : TV} {v : Value} (hx : RelT w (zz objs β Z) β U x v) (h : (evLoad T t x).Runs objs rd e) :
    Tells P (Instr.loadAt t v) w Z β U objs id0 e := by
  obtain ⟨u, b, o, rfl, h1, h2, h3⟩ := load_q hT hO hx h
  rw [h3]
  exact tells_quiet hO h1 h2
end
end Go.Te
set_option linter.unusedVariables false
set_option linter.unusedSimpArgs false
namespace Go.Te
open Go.RowKit

/-! ### 19. Cells as data -/
/-- Some objects have gone, these for sure. -/
structure Killed (objs objs' : Nat → Obj) (kl : List Nat) : Prop where
  each : ∀ j, objs' j = objs j ∨ objs' j = .dead
  gone : ∀ j, j ∈ kl → objs' j = .dead

theorem Killed.left {objs objs' : Nat → Obj} {a b : List Nat} (h : Killed objs objs' (a ++ b)) : Killed objs objs' a := ⟨h.each, fun j hj => h.gone j (by simp [hj])⟩
theorem Killed.right {objs objs' : Nat → Obj} {a b : List Nat} (h : Killed objs objs' (a ++ b)) : Killed objs objs' b := ⟨h.each, fun j hj => h.gone j (by simp [hj])⟩

theorem updO_kill (objs : Nat → Obj) : ∀ (kl : List Nat), ∀ j, updO objs (kill kl) j = if j ∈ kl then .dead else objs j := by
  intro kl
  induction kl generalizing objs with
  | nil => intro j; simp [kill, updO]
  | cons i kl ih =>
    intro j
    have := ih (fun id => bif Nat.beq id i then .dead else objs id) j
    simp only [kill, List.map_cons, updO] at this ⊢
    rw [this, beq_if]
    by_cases h1 : j ∈ kl
    · simp [h1]
    · by_cases h2 : j = i <;> simp [h1, h2]
theorem updO_append (l1 l2 : List (Nat × Obj)) : ∀ (objs : Nat → Obj), updO objs (l1 ++ l2) = updO (updO objs l1) l2 := by
  induction l1 with
  | nil => intro objs; rfl
  | cons p l1 ih => intro objs; exact ih _
theorem killed_kill (objs : Nat → Obj) (kl : List Nat) : Killed objs (updO objs (kill kl)) kl :=
  ⟨fun j => by rw [updO_kill]; split <;> simp, fun j hj => by rw [updO_kill, if_pos hj]⟩

theorem arrCell {w : World} {Z : Nat → Prop} {β : Beta} {U : Nat → Option Nat} {objs : Nat → Obj} (hO : RelO w Z β U objs) {id : Nat} {e : TypeId} {es : List Leaf} {xs : List (Row es)}
    (ho : objs id = .arr e es xs) : U id = some xs.length ∧ ((xs = [] ∧ β id = none) ∨ ∃ b cur, β id = some (b, 0) ∧ w.heap[b]? = some (.cells cur e (0, 0)) ∧ ∀ (i : Nat) x, xs[i]? = some x → RelRow w (zz objs β Z) es x b (i * es.length)) := by
  have := hO.obj id
  rw [ho] at this
  exact this

section
variable {P : Program} {T : Nat → Option TI} {w : World} {Z : Nat → Prop} {β : Beta} {U : Nat → Option Nat} {objs : Nat → Obj} {id0 : Nat} {rd : List Nat} {e : Eff}

theorem notzz (hO : RelO w Z β U objs) {objs' : Nat → Obj} {kl : List Nat} (hk : Killed objs objs' kl) {id b o : Nat} (hid : id ∈ kl) (hal : (objs id).alive = true) (hb : β id = some (b, o)) : ¬ zz objs' β Z b := by
  rintro (hz | ⟨j, q, hj, hq⟩)
  · exact hO.apart b hz ⟨id, o, hal, hb⟩
  · have hj' : (objs j).alive = true := by rcases hk.each j with h | h <;> rw [h] at hj <;> first | exact hj | cases hj
    have := hO.inj j id b q o hj' hal hq hb
    subst this
    rw [hk.gone j hid] at hj
    cases hj

/-- A slice over an object that has gone is a datum. -/
theorem arr_data (hO : RelO w Z β U objs) {objs' : Nat → Obj} {kl : List Nat} (hk : Killed objs objs' kl) {id : Nat} {t : TypeId} {es : List Leaf} {xs : List (Row es)} (ho : objs id = .arr t es xs) (hid : id ∈ kl)
    (n : Nat) {k : Nat} (hn : n ≤ xs.length) {v : Value} (hv : (n = 0 ∧ v = .slice none 0 0 ∧ β id = none) ∨ ∃ b cap e s, β id = some (b, 0) ∧ v = .slice (some ⟨b, 0, none⟩) n cap ∧ n ≤ cap ∧ cap ≤ maxLen ∧ w.shape? b = some (e, s) ∧ cap * k = s) :
    RelL w (zz objs' β Z) (.sl es) (xs.take n) v := by
  obtain ⟨hu, hr⟩ := arrCell hO ho
  have hl : (xs.take n).length = n := by simp; omega
  simp only [RelL]
  rcases hv with ⟨rfl, rfl, _⟩ | ⟨b, cap, e, s, hb, rfl, hc, _, _, _⟩
  · exact ⟨none, 0, by simp, by simp, fun h => (by simp at h)⟩
  · refine ⟨some ⟨b, 0, none⟩, cap, by rw [hl], by rw [hl]; exact hc, fun hne => ?_⟩
    rcases hr with ⟨rfl, _⟩ | ⟨b', cur, h1, h2, h3⟩
    · simp at hne
    · rw [hb] at h1
      cases h1
      refine ⟨b, 0, rfl, notzz hO hk hid (by rw [ho]; rfl) hb, (Array.getElem?_eq_some_iff.1 h2).1, fun i x hx => ?_⟩
      rw [List.getElem?_take] at hx
      split at hx
      · have := (h3 i x hx).kill hk.each
        simpa using this
      · cases hx

theorem RelL.kill {objs' : Nat → Obj} (h : ∀ j, objs' j = objs j ∨ objs' j = .dead) {l : Leaf} {x : l.T} {v : Value} (r : RelL w (zz objs β Z) l x v) : RelL w (zz objs' β Z) l x v :=
  RelL.step (own := fun _ => False) (WStep.refl _ w) (fun _ _ q => q.elim) (fun _ _ q => q.imp (fun q => q) (own_kill h)) l x v r

theorem toLV_ok (hO : RelO w Z β U objs) {x : TV} {v : Value} (hx : RelT w (zz objs β Z) β U x v) {r : LV × List Nat} (h : (toLV x).Runs objs rd r) {objs' : Nat → Obj} (hk : Killed objs objs' r.2) :
    RelL w (zz objs' β Z) r.1.l r.1.x v := by
  cases x with
  | d l y =>
    obtain ⟨rfl, _⟩ := h
    simp only [RelT] at hx
    exact hx.kill hk.each
  | arr id k n =>
    simp only [RelT] at hx
    obtain ⟨⟨L, hL, hn⟩, hv⟩ := hx
    simp only [toLV] at h
    obtain ⟨rd', _, h⟩ := h
    cases ho : objs id with
    | dead => rw [ho] at h; exact h.elim
    | box _ => rw [ho] at h; exact h.elim
    | arr t es xs =>
      rw [ho] at h
      obtain ⟨rfl, _⟩ := h
      have hu := (arrCell hO ho).1
      rw [hL] at hu
      cases hu
      exact arr_data hO hk ho (by simp) n hn hv
  | arrF id k =>
    simp only [RelT] at hx
    obtain ⟨L, hL, hv⟩ := hx
    simp only [toLV] at h
    obtain ⟨rd', _, h⟩ := h
    cases ho : objs id with
    | dead => rw [ho] at h; exact h.elim
    | box _ => rw [ho] at h; exact h.elim
    | arr t es xs =>
      rw [ho] at h
      obtain ⟨rfl, _⟩ := h
      have hu := (arrCell hO ho).1
      rw [hL] at hu
      cases hu
      have := arr_data hO hk ho (by simp) xs.length (Nat.le_refl _) hv
      rwa [List.take_length] at this
  | _ => exact h.elim
theorem toLeaf_ok (hO : RelO w Z β U objs) {l : Leaf} {x : TV} {v : Value} (hx : RelT w (zz objs β Z) β U x v) {r : LV × List Nat} (h : (toLeaf l x).Runs objs rd r) {objs' : Nat → Obj} (hk : Killed objs objs' r.2) :
    RelL w (zz objs' β Z) r.1.l r.1.x v := by
  by_cases hn : x = .nil
  · subst hn
    simp only [RelT] at hx
    subst hx
    cases l with
    | sl es =>
      obtain ⟨rfl, _⟩ := h
      simp only [RelL]
      exact ⟨none, 0, rfl, by simp, fun h => absurd rfl h⟩
    | _ => exact h.elim
  · have : toLeaf l x = toLV x := by cases x <;> first | rfl | exact absurd rfl hn
    rw [this] at h
    exact toLV_ok hO hx h hk
theorem toLeaves_ok (hO : RelO w Z β U objs) : ∀ {ls : List Leaf} {ts : List TV} {vs : List Value} {rd : List Nat}, RelTs w (zz objs β Z) β U ts vs → ∀ {r : List LV × List Nat}, (toLeaves ls ts).Runs objs rd r → ∀ {objs' : Nat → Obj}, Killed objs objs' r.2 →
    r.1.length = vs.length ∧ ∀ (i : Nat) a, r.1[i]? = some a → ∃ v, vs[i]? = some v ∧ RelL w (zz objs' β Z) a.l a.x v
  | [], [], vs, _, ht, r, h, _, _ => by
    obtain ⟨rfl, _⟩ := h
    simp only [RelTs] at ht
    subst ht
    simp
  | l :: ls, t :: ts, vs, _, ht, r, h, objs', hk => by
    simp only [RelTs] at ht
    obtain ⟨v, vs', rfl, h1, h2⟩ := ht
    simp only [toLeaves] at h
    obtain ⟨_, _, a, ha, h, _⟩ := Prog.runs_bind _ _ h
    obtain ⟨_, _, r', hr, h, _⟩ := Prog.runs_bind _ _ h
    obtain ⟨rfl, _⟩ := h
    obtain ⟨i1, i2⟩ := toLeaves_ok hO h2 hr hk.right
    refine ⟨by simp [i1], fun i b hb => ?_⟩
    cases i with
    | zero => simp at hb; subst hb; exact ⟨v, rfl, toLeaf_ok hO h1 ha hk.left⟩
    | succ i => simpa using i2 i b (by simpa using hb)
  | [], _ :: _, _, _, _, _, h, _, _ => h.elim
  | _ :: _, [], _, _, _, _, h, _, _ => h.elim

/-! ### 20. Stores -/
theorem setCells_heap {et : TypeId} (b : Nat) : ∀ (vs : List Value) (o : Nat) (w : World) {cur : Array Value}, w.heap[b]? = some (.cells cur et (0, 0)) → ∃ cur', (w.setCells b o vs).heap[b]? = some (.cells cur' et (0, 0))
  | [], _, _, cur, h => ⟨cur, h⟩
  | v :: vs, o, w, cur, h => setCells_heap b vs (o + 1) (w.setCell ⟨b, o, none⟩ v) (cur := cur.setIfInBounds o v) (by simp [World.setCell, Array.getElem?_modify, h])

/-- A statement's step: no value. -/
def Acts (P : Program) (S : Sem Unit) (w : World) (Z : Nat → Prop) (β : Beta) (U : Nat → Option Nat) (objs : Nat → Obj) (id0 : Nat) (e : Eff) : Prop :=
  ∃ w' β' U', S.run P w = .ok () w' ∧ e.v = .dead ∧ RelO w' Z β' U' (e.objs objs id0) ∧ Fit w β U objs w' β' U' (e.objs objs id0) id0 (id0 + 32)

theorem relTs_one {cs : List TV} {vs : List Value} (h : RelTs w Z β U cs vs) (ha : (cs.all fun | .dead => false | .agg _ => false | .tup _ => false | _ => true) = true) : ∀ u ∈ vs, u.oneCell' = true := by
  intro u hu
  obtain ⟨i, hi⟩ := List.getElem?_of_mem hu
  have hlt : i < cs.length := by rw [relTs_len h]; exact (List.getElem?_eq_some_iff.1 hi).1
  obtain ⟨u', h1, hr⟩ := relTs_get h i cs[i] (by simp [hlt])
  rw [hi] at h1
  cases h1
  have hc := List.all_eq_true.1 ha cs[i] (List.getElem_mem hlt)
  generalize cs[i] = c at hc hr
  cases c with
  | dead => simp at hc
  | agg _ => simp at hc
  | tup _ => simp at hc
  | d l y => cases l <;> simp only [RelT, RelL] at hr <;> first | (subst hr; rfl) | (obtain ⟨_, _, rfl, _⟩ := hr; rfl)
  | nil => simp only [RelT] at hr; subst hr; rfl
  | ptr _ _ => simp only [RelT] at hr; obtain ⟨_, _, _, _, rfl⟩ := hr; rfl
  | eptr _ _ _ _ => simp only [RelT] at hr; obtain ⟨_, _, _, _, rfl⟩ := hr; rfl
  | dptr _ _ _ => simp only [RelT] at hr; obtain ⟨_, _, _, _, rfl, _⟩ := hr; rfl
  | arr _ _ _ => simp only [RelT] at hr; obtain ⟨_, ⟨_, rfl, _⟩ | ⟨_, _, _, _, _, rfl, _⟩⟩ := hr <;> rfl
  | arrF _ _ => simp only [RelT] at hr; obtain ⟨_, _, ⟨_, rfl, _⟩ | ⟨_, _, _, _, _, rfl, _⟩⟩ := hr <;> rfl
  | fn _ _ => simp only [RelT] at hr; obtain ⟨_, rfl, _⟩ := hr; rfl
  | raw _ => simp only [RelT] at hr; obtain ⟨rfl, h⟩ := hr; exact h

theorem store_run (hT : TOk P T) {t : TypeId} {ti : TI} (ht : T t = some ti) {b o : Nat} {v : Value} (hl : v.cells.toList.length = ti.size)
    (hc : ∀ j, j < ti.size → (w.cell? ⟨b, o + j, none⟩).isSome = true) (hf : ∀ j, j < ti.size → w.frozen? ⟨b, o + j, none⟩ = false) (h1 : ∀ u ∈ v.cells.toList, u.oneCell' = true) :
    (Instr.storeAt t (.pointer (some ⟨b, o, none⟩)) v).run P w = .ok () (w.setCells b o v.cells.toList) := by
  have hs := run_storeCells_cells (P := P) b o v.cells.toList 0 w (by simpa [hl] using hc) (by simpa [hl] using hf) h1
  simp only [Nat.add_zero] at hs
  have hsz : v.cells.size = ti.size := by simpa using hl
  simp only [Instr.storeAt, Instr.sureAddr, storeVar, Sem.run_bind, Sem.run_pure, Result.andThen_ok, sizeOf_run hT ht, hsz, ne_eq, not_true, if_false, hs]

theorem store_ok (hT : TOk P T) (hO : RelO w Z β U objs) {t : TypeId} {a x : TV} {av v : Value} (ha : RelT w (zz objs β Z) β U a av) (hx : RelT w (zz objs β Z) β U x v) (h : (evStore T t a x).Runs objs rd e) :
    Acts P (Instr.storeAt t av v) w Z β U objs id0 e := by
  obtain ⟨ti, ht, h⟩ := runs_ofOpt h
  obtain ⟨cs, hc, h⟩ := runs_ofOpt h
  obtain ⟨hl, h⟩ := runs_need h
  simp at hl
  have hcs := cellsT_rel hx hc
  have hlen := relTs_len hcs
  cases a with
  | ptr id off =>
    simp only [RelT] at ha
    obtain ⟨hU, b, o, hb, rfl⟩ := ha
    obtain ⟨L, hL⟩ := Option.isSome_iff_exists.1 hU
    obtain ⟨rd', _, h⟩ := h
    have hr := hO.obj id
    cases ho : objs id with
    | dead => rw [ho] at h; exact h.elim
    | arr _ _ _ => rw [ho] at h; exact h.elim
    | box old =>
      rw [ho] at h hr
      obtain ⟨hn, h⟩ := runs_need h
      obtain ⟨rfl, _⟩ := h
      simp only [Bool.and_eq_true, decide_eq_true_eq] at hn
      obtain ⟨b', o', h1, h2, h3, h4⟩ := hr
      rw [hb] at h1
      cases h1
      have hcell : ∀ j, j < old.length → (w.cell? ⟨b, o + j, none⟩).isSome = true := fun j hj => by
        obtain ⟨u, hu, _⟩ := h4 j old[j] (by simp [hj])
        rw [hu]; rfl
      have hone := relTs_one hcs hn.2
      have hin : ∀ j, j < cs.length → (w.cell? ⟨b, o + off + j, none⟩).isSome = true := fun j hj => by
        rw [show o + off + j = o + (off + j) by omega]; exact hcell _ (by omega)
      have hrun := store_run (P := P) hT ht (w := w) (b := b) (o := o + off) (v := v) (by rw [← hlen]; exact hl) (fun j hj => hin j (by omega)) (fun j _ => h3 _) hone
      have hob : ∀ j, updO objs [(id, Obj.box (old.take off ++ cs ++ old.drop (off + cs.length)))] j = if j = id then .box (old.take off ++ cs ++ old.drop (off + cs.length)) else objs j := fun j => by simp [updO, beq_if]
      have tn : Turn w Z β U objs (w.setCells b (o + off) v.cells.toList) β (updO objs [(id, Obj.box (old.take off ++ cs ++ old.drop (off + cs.length)))]) b o id L :=
        ⟨hO, setCells_step b _ _ w, .inl ⟨id, o, by rw [ho]; rfl, hb⟩, Nat.lt_of_lt_of_le h2 (setCells_step b _ _ w).size, fun j hj => .inl (by rw [hob, if_neg hj]), fun j hj hal q hq => by
          rw [hob, if_neg hj] at hal
          exact hj (hO.inj j id b q o hal (by rw [ho]; rfl) hq hb), hb, fun _ _ => rfl, fun l hl => ⟨rfl, by rw [hL] at hl; exact (Option.some.inj hl).symm⟩⟩
      refine ⟨_, β, _, hrun, rfl, tn.relO ?_, fit_turn tn _ _ (.inl hU)⟩
      rw [hob, if_pos rfl]
      refine ⟨b, o, hb, Nat.lt_of_lt_of_le h2 tn.step.size, fun p => by rw [tn.step.frozen b p h2]; exact h3 p, fun i y hy => ?_⟩
      by_cases c1 : i < off
      · rw [List.append_assoc, List.getElem?_append_left (by simp; omega), List.getElem?_take, if_pos c1] at hy
        obtain ⟨u, hu, hr⟩ := h4 i y hy
        exact ⟨u, by rw [World.cell?_setCells_out b _ _ w _ (fun _ _ => .inl (by simp; omega))]; exact hu, tn.tv hr⟩
      · by_cases c2 : i < off + cs.length
        · rw [List.append_assoc, List.getElem?_append_right (by simp; omega), List.getElem?_append_left (by simp; omega)] at hy
          have hoff : (old.take off).length = off := by simp; omega
          rw [hoff] at hy
          obtain ⟨u, hu, hr⟩ := relTs_get hcs _ y hy
          have hlt : i - off < v.cells.toList.length := by rw [← hlen]; omega
          have := World.cell?_setCells_in b v.cells.toList (o + off) w (fun j hj => hin j (by rw [hlen]; exact hj)) (i - off) hlt
          rw [show o + off + (i - off) = o + i by omega] at this
          refine ⟨_, this, ?_⟩
          rw [List.getElem?_eq_getElem hlt] at hu
          cases hu
          exact tn.tv hr
        · rw [List.getElem?_append_right (by simp; omega)] at hy
          have hoff : (old.take off ++ cs).length = off + cs.length := by simp; omega
          rw [hoff, List.getElem?_drop] at hy
          obtain ⟨u, hu, hr⟩ := h4 _ y hy
          rw [show off + cs.length + (i - (off + cs.length)) = i by omega] at hu
          exact ⟨u, by rw [World.cell?_setCells_out b _ _ w _ (fun _ _ => .inr (by rw [← hlen]; simp; omega))]; exact hu, tn.tv hr⟩
  | eptr id k i j =>
    simp only [RelT] at ha
    obtain ⟨hU, b, o, hb, rfl⟩ := ha
    obtain ⟨rd', _, h⟩ := h
    cases ho : objs id with
    | dead => rw [ho] at h; exact h.elim
    | box _ => rw [ho] at h; exact h.elim
    | arr et es xs =>
      rw [ho] at h
      obtain ⟨hn, h⟩ := runs_need h
      obtain ⟨y, hy, h⟩ := runs_ofOpt h
      obtain ⟨_, _, r, hr, h, _⟩ := Prog.runs_bind _ _ h
      obtain ⟨hni, h⟩ := runs_need h
      obtain ⟨y', hy', h⟩ := runs_ofOpt h
      obtain ⟨rfl, _⟩ := h
      simp only [Bool.and_eq_true, decide_eq_true_eq] at hn
      obtain ⟨rfl, hj⟩ := hn
      simp at hni
      have hk := killed_kill objs r.2
      have hOK := hO.kill hk.each
      have hoK : updO objs (kill r.2) id = .arr et es xs := by rw [updO_kill, if_neg hni]; exact ho
      obtain ⟨hL, hcase⟩ := arrCell hOK hoK
      rcases hcase with ⟨rfl, _⟩ | ⟨b', cur, h1, h2, h3⟩
      · simp at hy
      rw [hb] at h1
      cases h1
      obtain ⟨hlr, hrv⟩ := toLeaves_ok hO hcs hr hk
      have hlt : b < w.heap.size := (Array.getElem?_eq_some_iff.1 h2).1
      have hrow := h3 i y hy
      have hfr : ∀ p, w.frozen? ⟨b, p, none⟩ = false := fun p => by simp [World.frozen?, h2]
      have hcell : ∀ p, p < es.length → (w.cell? ⟨b, i * es.length + p, none⟩).isSome = true := fun p hp => by
        have hpl : p < (leaves es y).length := by rw [leaves_len]; exact hp
        obtain ⟨u, hu, _⟩ := leaves_at es y b _ hrow p (leaves es y)[p] (List.getElem?_eq_getElem hpl)
        rw [hu]; rfl
      have hone : ∀ u ∈ v.cells.toList, u.oneCell' = true := fun u hu => by
        obtain ⟨p, hp⟩ := List.getElem?_of_mem hu
        have hpl : p < r.1.length := by rw [hlr]; exact (List.getElem?_eq_some_iff.1 hp).1
        obtain ⟨u', h1, hr⟩ := hrv p r.1[p] (by simp [hpl])
        rw [hp] at h1
        cases h1
        generalize r.1[p] = a at hr
        obtain ⟨l, z⟩ := a
        cases l <;> simp only [RelL] at hr <;> first | (subst hr; rfl) | (obtain ⟨_, _, rfl, _⟩ := hr; rfl)
      have hin : ∀ p, p < cs.length → (w.cell? ⟨b, i * es.length + j + p, none⟩).isSome = true := fun p hp => by
        rw [show i * es.length + j + p = i * es.length + (j + p) by omega]; exact hcell _ (by omega)
      have hrun := store_run (P := P) hT ht (w := w) (b := b) (o := i * es.length + j) (v := v) (by rw [← hlen]; exact hl) (fun p hp => hin p (by omega)) (fun p _ => hfr _) hone
      have hob : ∀ q, updO (updO objs (kill r.2)) [(id, Obj.arr et es (xs.set i y'))] q = if q = id then .arr et es (xs.set i y') else updO objs (kill r.2) q := fun q => by simp [updO, beq_if]
      have tn : Turn w Z β U (updO objs (kill r.2)) (w.setCells b (i * es.length + j) v.cells.toList) β (updO (updO objs (kill r.2)) [(id, Obj.arr et es (xs.set i y'))]) b 0 id xs.length :=
        ⟨hOK, setCells_step b _ _ w, .inl ⟨id, 0, by rw [hoK]; rfl, hb⟩, Nat.lt_of_lt_of_le hlt (setCells_step b _ _ w).size, fun q hq => .inl (by rw [hob, if_neg hq]), fun q hq hal q' hq' => by
          rw [hob, if_neg hq] at hal
          exact hq (hOK.inj q id b q' 0 hal (by rw [hoK]; rfl) hq' hb), hb, fun _ _ => rfl, fun l hl => ⟨rfl, by rw [hL] at hl; exact (Option.some.inj hl).symm⟩⟩
      have heq : (Eff.objs { v := .dead, upds := kill r.2 ++ [(id, Obj.arr et es (xs.set i y'))] } objs id0) = updO (updO objs (kill r.2)) [(id, Obj.arr et es (xs.set i y'))] := by
        simp only [Eff.objs, addO, updO_append]
      have hout : ∀ p, p < i * es.length + j ∨ i * es.length + j + cs.length ≤ p → (w.setCells b (i * es.length + j) v.cells.toList).cell? ⟨b, p, none⟩ = w.cell? ⟨b, p, none⟩ := fun p hp =>
        World.cell?_setCells_out b _ _ w _ (fun _ _ => by rw [← hlen]; exact hp)
      refine ⟨w.setCells b (i * es.length + j) v.cells.toList, β, fun q => if q = id then some xs.length else U q, by rw [Nat.zero_add]; exact hrun, rfl, ?_, ?_⟩
      rotate_left
      · rw [heq]
        exact (Fit.kill id0 (id0 + 32) hk.each).trans (fit_turn tn _ _ (.inl hU))
      · rw [heq]
        refine tn.relO ?_
        rw [hob, if_pos rfl]
        obtain ⟨t2, ht2⟩ : ∃ cur', (w.setCells b (i * es.length + j) v.cells.toList).heap[b]? = some (.cells cur' et (0, 0)) := setCells_heap b _ _ w h2
        refine ⟨by simp, .inr ⟨b, t2, hb, ht2, fun p z hz => ?_⟩⟩
        rw [List.getElem?_set] at hz
        by_cases hpi : i = p
        · subst hpi
          rw [if_pos rfl] at hz
          split at hz
          · cases hz
            refine rowOf_rel es _ _ hy' b _ fun p a hpa => ?_
            have hlen2 : (leaves es y).length = es.length := leaves_len es y
            have hrl : r.1.length = cs.length := by rw [hlr, hlen]
            by_cases c1 : p < j
            · rw [List.append_assoc, List.getElem?_append_left (by simp; omega), List.getElem?_take, if_pos c1] at hpa
              obtain ⟨u, hu, hr⟩ := leaves_at es y b _ hrow p a hpa
              exact ⟨u, by rw [hout _ (.inl (by omega))]; exact hu, RelL.step tn.step tn.hown tn.zsub a.l a.x u hr⟩
            · by_cases c2 : p < j + cs.length
              · rw [List.append_assoc, List.getElem?_append_right (by simp; omega), List.getElem?_append_left (by simp; omega)] at hpa
                have hoff : ((leaves es y).take j).length = j := by simp; omega
                rw [hoff] at hpa
                obtain ⟨u, hu, hr⟩ := hrv _ a hpa
                have hlt2 : p - j < v.cells.toList.length := by rw [← hlen]; omega
                have := World.cell?_setCells_in b v.cells.toList (i * es.length + j) w (fun q hq => hin q (by rw [hlen]; exact hq)) (p - j) hlt2
                rw [show i * es.length + j + (p - j) = i * es.length + p by omega] at this
                rw [List.getElem?_eq_getElem hlt2] at hu
                cases hu
                exact ⟨_, this, RelL.step tn.step tn.hown tn.zsub a.l a.x _ hr⟩
              · rw [List.getElem?_append_right (by simp; omega)] at hpa
                have hoff : ((leaves es y).take j ++ r.1).length = j + cs.length := by simp; omega
                rw [hoff, List.getElem?_drop] at hpa
                obtain ⟨u, hu, hr⟩ := leaves_at es y b _ hrow _ a hpa
                rw [show i * es.length + (j + cs.length + (p - (j + cs.length))) = i * es.length + p by omega] at hu
                exact ⟨u, by rw [hout _ (.inr (by omega))]; exact hu, RelL.step tn.step tn.hown tn.zsub a.l a.x u hr⟩
          · cases hz
        · rw [if_neg hpi] at hz
          refine tn.row (fun q u h1 h2 hq => ?_) (h3 p z hz)
          rw [hout q ?_]
          · exact hq
          · rcases Nat.lt_or_gt_of_ne hpi with hlt | hgt
            · right
              have : (i + 1) * es.length ≤ p * es.length := Nat.mul_le_mul_right _ hlt
              rw [Nat.succ_mul] at this
              omega
            · left
              have : (p + 1) * es.length ≤ i * es.length := Nat.mul_le_mul_right _ hgt
              rw [Nat.succ_mul] at this
              omega
  | _ => exact h.elim
end
end Go.Te
set_option linter.unusedVariables false
set_option linter.unusedSimpArgs false
namespace Go.Te
open Go.RowKit

section
variable {P : Program} {T : Nat → Option TI} {w : World} {Z : Nat → Prop} {β : Beta} {U : Nat → Option Nat} {objs : Nat → Obj} {id0 : Nat} {rd : List Nat} {e : Eff}

/-! ### 21. Addresses, parts -/
theorem fieldPlace_run (hT : TOk P T) {f : Field} {fi : TI} (hf : T f.type = some fi) (hs : 0 < fi.size) (b o : Nat) : (fieldPlace ⟨b, o, none⟩ f).run P w = .ok ⟨b, o + f.offset, none⟩ w := by
  unfold fieldPlace
  simp only [Sem.run_bind, sizeOf_run hT hf, Result.andThen_ok]
  rw [if_neg (by omega)]
  simp [addr_add]

theorem fieldAddr_ok (hT : TOk P T) (hO : RelO w Z β U objs) {s : TypeId} {x : TV} {v : Value} {f : Nat} (hx : RelT w (zz objs β Z) β U x v) (h : (evFieldAddr T s x f).Runs objs rd e) :
    Tells P (Instr.fieldAt s v f) w Z β U objs id0 e := by
  obtain ⟨ti, ht, h⟩ := runs_ofOpt h
  cases hd : ti.desc with
  | struct fs =>
    rw [hd] at h
    obtain ⟨fl, hfl, h⟩ := runs_ofOpt h
    obtain ⟨fi, hfi, h⟩ := runs_ofOpt h
    obtain ⟨hs, h⟩ := runs_need h
    simp at hs
    have run : ∀ b o, (Instr.fieldAt s (.pointer (some ⟨b, o, none⟩)) f).run P w = .ok (.pointer (some ⟨b, o + fl.offset, none⟩)) w := fun b o => by
      unfold Instr.fieldAt
      simp only [Sem.run_bind, und_run hT ht, hd, Result.andThen_ok, hfl, Instr.sureAddr, Sem.run_pure, fieldPlace_run hT hfi hs]
    cases x with
    | ptr id off =>
      obtain ⟨rfl, _⟩ := h
      simp only [RelT] at hx
      obtain ⟨hU, b, o, hb, rfl⟩ := hx
      refine tells_quiet hO (run b _) ?_
      simp only [RelT]
      exact ⟨hU, b, o, hb, by rw [Nat.add_assoc]⟩
    | eptr id k i j =>
      obtain ⟨rfl, _⟩ := h
      simp only [RelT] at hx
      obtain ⟨hU, b, o, hb, rfl⟩ := hx
      refine tells_quiet hO (run b _) ?_
      simp only [RelT]
      exact ⟨hU, b, o, hb, by rw [Nat.add_assoc]⟩
    | dptr es y j =>
      obtain ⟨rfl, _⟩ := h
      simp only [RelT] at hx
      obtain ⟨b, o, h1, h2, rfl, h3⟩ := hx
      refine tells_quiet hO (run b _) ?_
      simp only [RelT]
      exact ⟨b, o, h1, h2, by rw [Nat.add_assoc], h3⟩
    | _ => exact h.elim
  | _ => rw [hd] at h; exact h.elim

theorem part_run (hT : TOk P T) {t : TypeId} {ti : TI} (ht : T t = some ti) {cs : List TV} {vs : Array Value} (hc : RelTs w (zz objs β Z) β U cs vs.toList) {off : Nat}
    (h : (bif ti.agg then (need (decide (off + ti.size ≤ cs.length))).bind fun _ => Prog.ret ({ v := .agg ((cs.drop off).take ti.size) } : Eff) else (ofOpt (cs[off]?)).bind fun c => .ret { v := c }).Runs objs rd e) :
    ∃ v, (part t vs off).run P w = .ok v w ∧ RelT w (zz objs β Z) β U e.v v ∧ e = { v := e.v } := by
  unfold part
  simp only [Sem.run_bind, isAgg_run hT ht, Result.andThen_ok]
  cases ha : ti.agg with
  | true =>
    rw [ha] at h
    obtain ⟨hn, h⟩ := runs_need h
    obtain ⟨rfl, _⟩ := h
    simp at hn
    refine ⟨.agg (vs.extract off (off + ti.size)), by simp [sizeOf_run hT ht], ?_, rfl⟩
    simp only [RelT]
    refine ⟨_, rfl, ?_⟩
    have := relTs_take (relTs_drop hc off) ti.size
    rwa [show (vs.extract off (off + ti.size)).toList = (vs.toList.drop off).take ti.size by simp [List.extract_eq_take_drop]]
  | false =>
    rw [ha] at h
    obtain ⟨y, hy, h⟩ := runs_ofOpt h
    obtain ⟨rfl, _⟩ := h
    obtain ⟨v, hv, hr⟩ := relTs_get hc _ y hy
    refine ⟨v, ?_, hr, rfl⟩
    simp only [Array.getElem?_toList] at hv
    simp [hv]

theorem field_ok (hT : TOk P T) (hO : RelO w Z β U objs) {t : TypeId} {x : TV} {v : Value} {f : Nat} (hx : RelT w (zz objs β Z) β U x v) (h : (evField T t x f).Runs objs rd e) :
    Tells P (Instr.field t v f) w Z β U objs id0 e := by
  obtain ⟨ti, ht, h⟩ := runs_ofOpt h
  cases hd : ti.desc with
  | struct fs =>
    rw [hd] at h
    cases x with
    | agg cs =>
      simp only [RelT] at hx
      obtain ⟨vs, rfl, hc⟩ := hx
      obtain ⟨fl, hfl, h⟩ := runs_ofOpt h
      obtain ⟨fi, hfi, h⟩ := runs_ofOpt h
      obtain ⟨v, hr, hv, he⟩ := part_run hT hfi hc h
      rw [he]
      refine tells_quiet hO (v := v) ?_ hv
      unfold Instr.field
      simp only [Sem.run_bind, und_run hT ht, hd, Result.andThen_ok, hfl, asAgg, Sem.run_pure, hr]
    | _ => exact h.elim
  | _ => rw [hd] at h; exact h.elim

theorem asI_ok {x : TV} {v : Value} {kn : IntKind × Int} (hx : RelT w Z β U x v) (h : asI x = some kn) : v = .int kn.1 kn.2 := by
  cases x with
  | d l y =>
    cases l with
    | int k => simp only [asI, Option.some.injEq] at h; subst h; simpa [RelT, RelL] using hx
    | _ => simp [asI] at h
  | _ => simp [asI] at h
theorem asB_ok {x : TV} {v : Value} {b : Bool} (hx : RelT w Z β U x v) (h : asB x = some b) : v = .bool b := by
  cases x with
  | d l y =>
    cases l with
    | bool => cases h; simpa [RelT, RelL] using hx
    | _ => simp [asB] at h
  | _ => simp [asB] at h

theorem indexAddr_ok (hT : TOk P T) (hO : RelO w Z β U objs) {t : TypeId} {x i : TV} {v iv : Value} (hx : RelT w (zz objs β Z) β U x v) (hi : RelT w (zz objs β Z) β U i iv)
    (h : (evIndexAddr T t x i).Runs objs rd e) : Tells P (Instr.indexAt t v iv) w Z β U objs id0 e := by
  obtain ⟨kn, hkn, h⟩ := runs_ofOpt h
  have := asI_ok hi hkn
  subst this
  obtain ⟨ti, ht, h⟩ := runs_ofOpt h
  obtain ⟨h0, h⟩ := runs_need h
  simp at h0
  have slc : ∀ {el : TypeId} {ei : TI} (a : Addr) (len cap : Nat), ti.desc = .slice el → T el = some ei → kn.2 < len →
      (Instr.indexAt t (.slice (some a) len cap) (.int kn.1 kn.2)).run P w = .ok (.pointer (some (a.add (kn.2.toNat * ei.size)))) w := by
    intro el ei a len cap hd hei hlt
    unfold Instr.indexAt
    simp only [Sem.run_bind, asIntOf, Sem.run_pure, Result.andThen_ok, und_run hT ht, hd]
    rw [if_pos ⟨h0, hlt⟩]
    simp [sizeOf_run hT hei]
  cases hd : ti.desc with
  | slice el =>
    rw [hd] at h
    cases x with
    | d l xs =>
      cases l with
      | sl es =>
        obtain ⟨ei, hei, h⟩ := runs_ofOpt h
        obtain ⟨hn, h⟩ := runs_need h
        obtain ⟨y, hy, h⟩ := runs_ofOpt h
        obtain ⟨rfl, _⟩ := h
        simp at hn
        simp only [RelT, RelL] at hx
        obtain ⟨a, cap, rfl, hc, hr⟩ := hx
        have hlt : kn.2.toNat < (lst xs).length := (List.getElem?_eq_some_iff.1 hy).1
        obtain ⟨b, off, rfl, hnz, hb, hrow⟩ := hr (fun q => by rw [q] at hlt; simp at hlt)
        refine tells_quiet hO (slc _ _ _ hd hei (by omega)) ?_
        simp only [RelT]
        exact ⟨b, _, hnz, hb, by rw [addr_add, hn.1, Nat.add_zero], hrow _ y hy⟩
      | _ => exact h.elim
    | arr id k m =>
      obtain ⟨ei, hei, h⟩ := runs_ofOpt h
      obtain ⟨hn, h⟩ := runs_need h
      obtain ⟨hm, h⟩ := runs_need h
      obtain ⟨rfl, _⟩ := h
      simp at hn hm
      simp only [RelT] at hx
      obtain ⟨⟨L, hL, _⟩, ⟨rfl, _⟩ | ⟨b, cap, et, s, hb, rfl, _⟩⟩ := hx
      · omega
      · refine tells_quiet hO (slc _ _ _ hd hei (by omega)) ?_
        simp only [RelT]
        exact ⟨by rw [hL]; rfl, b, 0, hb, by rw [addr_add, hn, Nat.add_zero]⟩
    | arrF id k =>
      obtain ⟨ei, hei, h⟩ := runs_ofOpt h
      obtain ⟨hn, h⟩ := runs_need h
      obtain ⟨rd', _, h⟩ := h
      simp at hn
      simp only [RelT] at hx
      obtain ⟨L, hL, hx⟩ := hx
      cases ho : objs id with
      | dead => rw [ho] at h; exact h.elim
      | box _ => rw [ho] at h; exact h.elim
      | arr et es xs =>
        rw [ho] at h
        obtain ⟨hm, h⟩ := runs_need h
        obtain ⟨rfl, _⟩ := h
        simp at hm
        have hu := (arrCell hO ho).1
        rw [hL] at hu
        cases hu
        rcases hx with ⟨hz, _⟩ | ⟨b, cap, et, s, hb, rfl, _⟩
        · omega
        · refine tells_quiet hO (slc _ _ _ hd hei (by omega)) ?_
          simp only [RelT]
          exact ⟨by rw [hL]; rfl, b, 0, hb, by rw [addr_add, hn, Nat.add_zero]⟩
    | _ => exact h.elim
  | array len el =>
    rw [hd] at h
    cases x with
    | ptr id off =>
      obtain ⟨ei, hei, h⟩ := runs_ofOpt h
      obtain ⟨hm, h⟩ := runs_need h
      obtain ⟨rfl, _⟩ := h
      simp at hm
      simp only [RelT] at hx
      obtain ⟨hU, b, o, hb, rfl⟩ := hx
      refine tells_quiet hO (v := .pointer (some ⟨b, o + off + kn.2.toNat * ei.size, none⟩)) ?_ ?_
      · unfold Instr.indexAt
        simp only [Sem.run_bind, asIntOf, Sem.run_pure, Result.andThen_ok, und_run hT ht, hd, Instr.sureAddr]
        rw [if_pos ⟨h0, by omega⟩]
        simp [sizeOf_run hT hei, addr_add]
      · simp only [RelT]
        exact ⟨hU, b, o, hb, by rw [Nat.add_assoc]⟩
    | _ => exact h.elim
  | _ => rw [hd] at h; exact h.elim

theorem index_ok (hT : TOk P T) (hO : RelO w Z β U objs) {t : TypeId} {x i : TV} {v iv : Value} (hx : RelT w (zz objs β Z) β U x v) (hi : RelT w (zz objs β Z) β U i iv)
    (h : (evIndex T t x i).Runs objs rd e) : Tells P (Instr.index t v iv) w Z β U objs id0 e := by
  obtain ⟨kn, hkn, h⟩ := runs_ofOpt h
  have := asI_ok hi hkn
  subst this
  obtain ⟨ti, ht, h⟩ := runs_ofOpt h
  obtain ⟨h0, h⟩ := runs_need h
  simp at h0
  cases hd : ti.desc with
  | string =>
    rw [hd] at h
    cases x with
    | d l s =>
      cases l with
      | str =>
        obtain ⟨c, hc, h⟩ := runs_ofOpt h
        obtain ⟨rfl, _⟩ := h
        simp only [RelT, RelL] at hx
        subst hx
        refine tells_quiet hO (v := .int .u8 c.toNat) ?_ (by simp [RelT, RelL])
        unfold Instr.index
        simp only [Sem.run_bind, asIntOf, Sem.run_pure, Result.andThen_ok, und_run hT ht, hd]
        rw [if_pos h0]
        have hc' : (show ByteArray from s)[kn.2.toNat]? = some c := hc
        simp only at hc'
        rw [hc']
        rfl
      | _ => exact h.elim
    | _ => exact h.elim
  | array len el =>
    rw [hd] at h
    cases x with
    | agg cs =>
      simp only [RelT] at hx
      obtain ⟨vs, rfl, hc⟩ := hx
      obtain ⟨ei, hei, h⟩ := runs_ofOpt h
      obtain ⟨hm, h⟩ := runs_need h
      simp at hm
      obtain ⟨v, hr, hv, he⟩ := part_run hT hei hc h
      rw [he]
      refine tells_quiet hO (v := v) ?_ hv
      unfold Instr.index
      simp only [Sem.run_bind, asIntOf, Sem.run_pure, Result.andThen_ok, und_run hT ht, hd]
      rw [if_pos ⟨h0, by omega⟩]
      simp [sizeOf_run hT hei, hr]
    | _ => exact h.elim
  | _ => rw [hd] at h; exact h.elim

theorem extract_ok (hO : RelO w Z β U objs) {x : TV} {v : Value} {i : Nat} (hx : RelT w (zz objs β Z) β U x v) (h : (evExtract x i).Runs objs rd e) :
    Tells P (Instr.extract v i) w Z β U objs id0 e := by
  cases x with
  | tup xs =>
    obtain ⟨c, hc, h⟩ := runs_ofOpt h
    obtain ⟨rfl, _⟩ := h
    simp only [RelT] at hx
    obtain ⟨vs, rfl, hr⟩ := hx
    obtain ⟨v, hv, hr⟩ := relTs_get hr i c hc
    refine tells_quiet hO (v := v) ?_ hr
    simp only [Array.getElem?_toList] at hv
    simp [Instr.extract, hv]
  | _ => exact h.elim

/-! ### 22. Numbers, bools, strings -/
theorem len_ok (hT : TOk P T) (hO : RelO w Z β U objs) {t ty : TypeId} {x : TV} {v : Value} (hx : RelT w (zz objs β Z) β U x v) (h : (evLen T t x).Runs objs rd e) :
    Tells P (Builtin.len_ #[t] ty #[v]) w Z β U objs id0 e := by
  obtain ⟨ti, ht, h⟩ := runs_ofOpt h
  have hu := und_run (w := w) hT ht
  cases hd : ti.desc with
  | string =>
    rw [hd] at h hu
    cases x with
    | d l s =>
      cases l with
      | str =>
        obtain ⟨rfl, _⟩ := h
        simp only [RelT, RelL] at hx
        subst hx
        refine tells_quiet hO (v := goInt (sV s).size) (by simp [Builtin.len_, hu]) (by simp [RelT, RelL, goInt])
      | _ => exact h.elim
    | _ => exact h.elim
  | slice el =>
    rw [hd] at h hu
    have run : ∀ a n c, (Builtin.len_ #[t] ty #[.slice a n c]).run P w = .ok (goInt n) w := fun a n c => by simp [Builtin.len_, hu]
    cases x with
    | d l xs =>
      cases l with
      | sl es =>
        obtain ⟨rfl, _⟩ := h
        simp only [RelT, RelL] at hx
        obtain ⟨a, cap, rfl, _⟩ := hx
        exact tells_quiet hO (run _ _ _) (by simp [RelT, RelL, goInt])
      | _ => exact h.elim
    | nil =>
      obtain ⟨rfl, _⟩ := h
      simp only [RelT] at hx
      subst hx
      exact tells_quiet hO (run _ _ _) (by simp [RelT, RelL, goInt])
    | arr id k n =>
      obtain ⟨rfl, _⟩ := h
      simp only [RelT] at hx
      obtain ⟨_, ⟨rfl, rfl, _⟩ | ⟨b, cap, et, s, hb, rfl, _⟩⟩ := hx
      · exact tells_quiet hO (run _ _ _) (by simp [RelT, RelL, goInt])
      · exact tells_quiet hO (run _ _ _) (by simp [RelT, RelL, goInt])
    | arrF id k =>
      obtain ⟨rd', _, h⟩ := h
      simp only [RelT] at hx
      obtain ⟨L, hL, hx⟩ := hx
      cases ho : objs id with
      | dead => rw [ho] at h; exact h.elim
      | box _ => rw [ho] at h; exact h.elim
      | arr et es xs =>
        rw [ho] at h
        obtain ⟨rfl, _⟩ := h
        have hu := (arrCell hO ho).1
        rw [hL] at hu
        cases hu
        rcases hx with ⟨hz, rfl, _⟩ | ⟨b, cap, et, s, hb, rfl, _⟩
        · exact tells_quiet hO (run _ _ _) (by simp [RelT, RelL, goInt, hz])
        · exact tells_quiet hO (run _ _ _) (by simp [RelT, RelL, goInt])
    | _ => exact h.elim
  | array n el =>
    rw [hd] at h hu
    have : e = { v := .d (.int .i64) (n : Int) } ∧ rd = [] := by cases x <;> exact h
    obtain ⟨rfl, _⟩ := this
    exact tells_quiet hO (v := goInt n) (by simp [Builtin.len_, hu]) (by simp [RelT, RelL, goInt])
  | _ => rw [hd] at h; exact h.elim

theorem minmax_ok (hO : RelO w Z β U objs) {ts : Array TypeId} {ty : TypeId} {mx : Bool} {x y : TV} {v u : Value} (hx : RelT w (zz objs β Z) β U x v) (hy : RelT w (zz objs β Z) β U y u)
    (h : (evMinMax mx x y).Runs objs rd e) : Tells P (if mx then Builtin.max_ ts ty #[v, u] else Builtin.min_ ts ty #[v, u]) w Z β U objs id0 e := by
  cases x with
  | d l x =>
    cases l with
    | int k =>
      cases y with
      | d l y =>
        cases l with
        | int k' =>
          obtain ⟨rfl, _⟩ := h
          simp only [RelT, RelL] at hx hy
          subst hx; subst hy
          cases mx with
          | true => exact tells_quiet hO (by rw [if_pos rfl]; exact run_max_int2 w ts ty k k' _ _) (by simp only [RelT, RelL, cond]; rfl)
          | false => exact tells_quiet hO (by rw [if_neg (by simp)]; exact run_min_int2 w ts ty k k' _ _) (by simp only [RelT, RelL, cond]; rfl)
        | _ => exact h.elim
      | _ => exact h.elim
    | _ => exact h.elim
  | _ => exact h.elim
end
end Go.Te
set_option linter.unusedVariables false
set_option linter.unusedSimpArgs false
namespace Go.Te
open Go.RowKit

section
variable {P : Program} {T : Nat → Option TI} {w : World} {Z : Nat → Prop} {β : Beta} {U : Nat → Option Nat} {objs : Nat → Obj} {id0 : Nat} {rd : List Nat} {e : Eff}

/-- The operation '==' and its kin, with the guard ahead of them. -/
def binSem (op : BinOp) (xt : TypeId) (x y : Operand) (a b : Value) : Sem Value := do eqGuard op xt x y a b; binOp op xt a b

theorem guard_none {op : BinOp} {xt : TypeId} {x y : Operand} {a b : Value} (h1 : ¬ (a = .nilIface ∧ b = .nilIface)) (h2 : ∀ xs ys, ¬ (a = .agg xs ∧ b = .agg ys)) : (eqGuard op xt x y a b).run P w = .ok () w := by
  have hm : (match a, b with
      | .nilIface, .nilIface => (do
          if (x matches .const _) || (y matches .const _) then return
          if ← Op.eqGuardIn Op.maxDepth xt a b then unsupported (.noEntry "binop/eql: two nil values of an interface type with methods, neither of them the literal nil") : Sem Unit)
      | .agg _, .agg _ => (do
          if !(← program).eqGuardType (← program).depth xt then return
          if ← Op.eqGuardIn Op.maxDepth xt a b then unsupported (.noEntry "binop/eql: two nil values of an interface type with methods, in a part of a struct or an array") : Sem Unit)
      | _, _ => pure ()).run P w = .ok () w := by
    split
    · exact absurd ⟨rfl, rfl⟩ h1
    · exact absurd ⟨rfl, rfl⟩ (h2 _ _)
    · rfl
  unfold eqGuard
  cases op <;> first | rfl | exact hm

theorem binI_ok (hO : RelO w Z β U objs) {op : BinOp} {xt : TypeId} {x y : Operand} {k k' : IntKind} {a b : Int} (h : (evBinI op k k' a b).Runs objs rd e) :
    Tells P (binSem op xt x y (.int k a) (.int k' b)) w Z β U objs id0 e := by
  have hg : (eqGuard op xt x y (.int k a) (.int k' b)).run P w = .ok () w := guard_none (by simp) (by simp)
  cases op with
  | shl =>
    obtain ⟨hn, h⟩ := runs_need h
    obtain ⟨rfl, _⟩ := h
    simp at hn
    refine tells_quiet hO (v := .int k (k.wrap (a * 2 ^ (min b.toNat k.bits)))) ?_ (by simp [RelT, RelL])
    simp only [binSem, Sem.run_bind, hg, Result.andThen_ok, binOp, Op.shift]
    rw [if_neg (by omega)]
    rfl
  | shr =>
    obtain ⟨hn, h⟩ := runs_need h
    obtain ⟨rfl, _⟩ := h
    simp at hn
    refine tells_quiet hO (v := .int k (a.fdiv (2 ^ (min b.toNat k.bits)))) ?_ (by simp [RelT, RelL])
    simp only [binSem, Sem.run_bind, hg, Result.andThen_ok, binOp, Op.shift]
    rw [if_neg (by omega)]
    rfl
  | add =>
    obtain ⟨hn, h⟩ := runs_need h
    obtain ⟨rfl, _⟩ := h
    simp at hn
    subst hn
    exact tells_quiet hO (v := .int k (k.wrap (a + b))) (by simp [binSem, hg, binOp, Op.intArith]) (by simp [RelT, RelL])
  | sub =>
    obtain ⟨hn, h⟩ := runs_need h
    obtain ⟨rfl, _⟩ := h
    simp at hn
    subst hn
    exact tells_quiet hO (v := .int k (k.wrap (a - b))) (by simp [binSem, hg, binOp, Op.intArith]) (by simp [RelT, RelL])
  | mul =>
    obtain ⟨hn, h⟩ := runs_need h
    obtain ⟨rfl, _⟩ := h
    simp at hn
    subst hn
    exact tells_quiet hO (v := .int k (k.wrap (a * b))) (by simp [binSem, hg, binOp, Op.intArith]) (by simp [RelT, RelL])
  | quo =>
    obtain ⟨hn, h⟩ := runs_need h
    obtain ⟨hz, h⟩ := runs_need h
    obtain ⟨rfl, _⟩ := h
    simp at hn hz
    subst hn
    exact tells_quiet hO (v := .int k (k.wrap (a.tdiv b))) (by simp [binSem, hg, binOp, Op.intDiv, hz]) (by simp [RelT, RelL])
  | rem =>
    obtain ⟨hn, h⟩ := runs_need h
    obtain ⟨hz, h⟩ := runs_need h
    obtain ⟨rfl, _⟩ := h
    simp at hn hz
    subst hn
    exact tells_quiet hO (v := .int k (a.tmod b)) (by simp [binSem, hg, binOp, Op.intDiv, hz]) (by simp [RelT, RelL])
  | and =>
    obtain ⟨hn, h⟩ := runs_need h
    obtain ⟨r, hr, h⟩ := runs_ofOpt h
    obtain ⟨rfl, _⟩ := h
    simp at hn
    cases hr
    subst hn
    exact tells_quiet hO (v := .int k (k.wrap (BitVec.ofInt k.bits a &&& BitVec.ofInt k.bits b).toNat)) (by simp only [binSem, Sem.run_bind, hg, Result.andThen_ok, binOp, ne_eq, not_true, if_false, Op.intBits, Sem.run_pure]) (by simp only [RelT, RelL])
  | or =>
    obtain ⟨hn, h⟩ := runs_need h
    obtain ⟨r, hr, h⟩ := runs_ofOpt h
    obtain ⟨rfl, _⟩ := h
    simp at hn
    cases hr
    subst hn
    exact tells_quiet hO (v := .int k (k.wrap (BitVec.ofInt k.bits a ||| BitVec.ofInt k.bits b).toNat)) (by simp only [binSem, Sem.run_bind, hg, Result.andThen_ok, binOp, ne_eq, not_true, if_false, Op.intBits, Sem.run_pure]) (by simp only [RelT, RelL])
  | xor =>
    obtain ⟨hn, h⟩ := runs_need h
    obtain ⟨r, hr, h⟩ := runs_ofOpt h
    obtain ⟨rfl, _⟩ := h
    simp at hn
    cases hr
    subst hn
    exact tells_quiet hO (v := .int k (k.wrap (BitVec.ofInt k.bits a ^^^ BitVec.ofInt k.bits b).toNat)) (by simp only [binSem, Sem.run_bind, hg, Result.andThen_ok, binOp, ne_eq, not_true, if_false, Op.intBits, Sem.run_pure]) (by simp only [RelT, RelL])
  | andNot =>
    obtain ⟨hn, h⟩ := runs_need h
    obtain ⟨r, hr, h⟩ := runs_ofOpt h
    simp [cmpI] at hr
  | eql =>
    obtain ⟨hn, h⟩ := runs_need h
    obtain ⟨r, hr, h⟩ := runs_ofOpt h
    obtain ⟨rfl, _⟩ := h
    simp at hn
    cases hr
    subst hn
    exact tells_quiet hO (v := .bool (a == b)) (by simp [binSem, hg, binOp, Op.intCmp]) (by simp [RelT, RelL])
  | neq =>
    obtain ⟨hn, h⟩ := runs_need h
    obtain ⟨r, hr, h⟩ := runs_ofOpt h
    obtain ⟨rfl, _⟩ := h
    simp at hn
    cases hr
    subst hn
    exact tells_quiet hO (v := .bool (a != b)) (by simp [binSem, hg, binOp, Op.intCmp]) (by simp [RelT, RelL])
  | lss =>
    obtain ⟨hn, h⟩ := runs_need h
    obtain ⟨r, hr, h⟩ := runs_ofOpt h
    obtain ⟨rfl, _⟩ := h
    simp at hn
    cases hr
    subst hn
    exact tells_quiet hO (v := .bool (decide (a < b))) (by simp [binSem, hg, binOp, Op.intCmp]) (by simp [RelT, RelL])
  | leq =>
    obtain ⟨hn, h⟩ := runs_need h
    obtain ⟨r, hr, h⟩ := runs_ofOpt h
    obtain ⟨rfl, _⟩ := h
    simp at hn
    cases hr
    subst hn
    exact tells_quiet hO (v := .bool (decide (a ≤ b))) (by simp [binSem, hg, binOp, Op.intCmp]) (by simp [RelT, RelL])
  | gtr =>
    obtain ⟨hn, h⟩ := runs_need h
    obtain ⟨r, hr, h⟩ := runs_ofOpt h
    obtain ⟨rfl, _⟩ := h
    simp at hn
    cases hr
    subst hn
    exact tells_quiet hO (v := .bool (decide (a > b))) (by simp [binSem, hg, binOp, Op.intCmp]) (by simp [RelT, RelL])
  | geq =>
    obtain ⟨hn, h⟩ := runs_need h
    obtain ⟨r, hr, h⟩ := runs_ofOpt h
    obtain ⟨rfl, _⟩ := h
    simp at hn
    cases hr
    subst hn
    exact tells_quiet hO (v := .bool (decide (a ≥ b))) (by simp [binSem, hg, binOp, Op.intCmp]) (by simp [RelT, RelL])

theorem binS_ok (hO : RelO w Z β U objs) {op : BinOp} {xt : TypeId} {x y : Operand} {a b : ByteArray} (h : (evBinS op a b).Runs objs rd e) :
    Tells P (binSem op xt x y (.string a) (.string b)) w Z β U objs id0 e := by
  have hg : (eqGuard op xt x y (.string a) (.string b)).run P w = .ok () w := guard_none (by simp) (by simp)
  have hmax : IntKind.i64.max = 9223372036854775807 := by decide
  cases op with
  | add =>
    obtain ⟨hn, h⟩ := runs_need h
    obtain ⟨rfl, _⟩ := h
    simp only [decide_eq_true_eq] at hn
    refine tells_quiet hO (v := .string (a ++ b)) ?_ (by simp [RelT, RelL])
    simp only [binSem, Sem.run_bind, hg, Result.andThen_ok, binOp, Op.stringOp, hmax]
    rw [if_neg (by omega)]
    rfl
  | _ =>
    obtain ⟨r, hr, h⟩ := runs_ofOpt h
    obtain ⟨rfl, _⟩ := h
    refine tells_quiet hO (v := .bool r) ?_ (by simp only [RelT, RelL])
    simp only [binSem, Sem.run_bind, hg, Result.andThen_ok, binOp]
    first
      | (simp [cmpS] at hr; done)
      | (simp only [cmpS, Option.some.injEq] at hr; subst hr; rfl)

/-! ### 23. '==' of structs, of what may be nil -/
theorem eqT_ok (hT : TOk P T) : ∀ (n : Nat) (t : TypeId) (xs ys : List TV) (r : Bool), eqT T n t xs ys = some r → ∀ (D : Nat) (v u : Value), n ≤ D →
    ((∃ ti, T t = some ti ∧ ti.agg = true) → ∃ vs us : Array Value, v = .agg vs ∧ u = .agg us ∧ RelTs w Z β U xs vs.toList ∧ RelTs w Z β U ys us.toList) →
    ((∃ ti, T t = some ti ∧ ti.agg = false) → RelTs w Z β U xs [v] ∧ RelTs w Z β U ys [u]) → (Op.equalIn D t v u).run P w = .ok r w := by
  intro n
  induction n with
  | zero => intro t xs ys r h; simp [eqT] at h
  | succ n ih =>
    intro t xs ys r h D v u hD hagg hone
    obtain ⟨D, rfl⟩ : ∃ d, D = d + 1 := ⟨D - 1, by omega⟩
    simp only [eqT, Option.bind_eq_some_iff] at h
    obtain ⟨ti, ht, h⟩ := h
    obtain ⟨hu, i, hi, _, hp⟩ := hT t ti ht
    have sgl : ∀ {l l' : Leaf} {a : l.T} {b : l'.T}, ti.agg = false → xs = [.d l a] → ys = [.d l' b] → RelL w Z l a v ∧ RelL w Z l' b u := by
      intro l l' a b ha hx hy
      obtain ⟨h1, h2⟩ := hone ⟨ti, ht, ha⟩
      subst hx; subst hy
      simp only [RelTs, List.cons.injEq] at h1 h2
      obtain ⟨v', _, ⟨rfl, rfl⟩, h1, _⟩ := h1
      obtain ⟨u', _, ⟨rfl, rfl⟩, h2, _⟩ := h2
      exact ⟨by simpa [RelT] using h1, by simpa [RelT] using h2⟩
    cases hd : ti.desc with
    | int k0 =>
      rw [hd] at h hu
      dsimp only at h
      split at h
      · rename_i k a k' b
        obtain ⟨h1, h2⟩ := sgl (by simp [TI.agg, hd]) rfl rfl
        simp only [RelL] at h1 h2
        subst h1; subst h2
        by_cases e : k = k'
        · subst e
          simp at h
          subst h
          exact run_equalIn_int w D t k k0 _ _ hu
        · have : (k == k') = false := by simpa using e
          rw [this] at h; cases h
      · cases h
    | bool =>
      rw [hd] at h hu
      dsimp only at h
      split at h
      · rename_i a b
        obtain ⟨h1, h2⟩ := sgl (by simp [TI.agg, hd]) rfl rfl
        simp only [RelL] at h1 h2
        subst h1; subst h2
        cases h
        exact run_equalIn_bool' w D t _ _ hu
      · cases h
    | string =>
      rw [hd] at h hu
      dsimp only at h
      split at h
      · rename_i a b
        obtain ⟨h1, h2⟩ := sgl (by simp [TI.agg, hd]) rfl rfl
        simp only [RelL] at h1 h2
        subst h1; subst h2
        cases h
        exact run_equalIn_string w D t _ _ hu
      · cases h
    | struct fs =>
      rw [hd] at h hu
      dsimp only at h
      cases hpl : ti.plain with
      | false => rw [hpl] at h; cases h
      | true =>
        rw [hpl] at h
        obtain ⟨hst, _, hnm⟩ := hp hpl
        obtain ⟨vs, us, rfl, rfl, hv, hw⟩ := hagg ⟨ti, ht, by simp [TI.agg, hd]⟩
        have hfo : P.fieldsOf t = fs := by simp [Program.fieldsOf, hu]
        rw [run_equalIn_struct w D t vs us (by rw [hfo]; exact hu) hst, hfo]
        have main : ∀ (l : List Field), (∀ f ∈ l, f.name ≠ "_") → ∀ r, eqFs T (eqT T n) xs ys l = some r → (Op.eqFields D vs us l).run P w = .ok r w := by
          intro l
          induction l with
          | nil => intro _ r h; cases h; rfl
          | cons f l ihl =>
            intro hn r h
            simp only [eqFs, Option.bind_eq_some_iff] at h
            obtain ⟨fi, hfi, h⟩ := h
            cases hb : (decide (f.offset + fi.size ≤ xs.length) && decide (f.offset + fi.size ≤ ys.length) && decide (0 < fi.size)) with
            | false => rw [hb] at h; cases h
            | true =>
              rw [hb] at h
              simp only [cond_true, Option.bind_eq_some_iff] at h
              obtain ⟨r1, h1, q, h2, h3⟩ := h
              cases h3
              simp only [Bool.and_eq_true, decide_eq_true_eq] at hb
              have hx1 := relTs_take (relTs_drop hv f.offset) fi.size
              have hy1 := relTs_take (relTs_drop hw f.offset) fi.size
              have hlx := relTs_len hv
              have hly := relTs_len hw
              simp only [Array.length_toList] at hlx hly
              have prt : ∃ a b, (part f.type vs f.offset).run P w = .ok a w ∧ (part f.type us f.offset).run P w = .ok b w ∧ (Op.equalIn D f.type a b).run P w = .ok r1 w := by
                cases hag : fi.agg with
                | true =>
                  refine ⟨.agg (vs.extract f.offset (f.offset + fi.size)), .agg (us.extract f.offset (f.offset + fi.size)), ?_, ?_, ih f.type _ _ r1 h1 D _ _ (by omega) (fun _ => ⟨_, _, rfl, rfl, ?_, ?_⟩) (fun ⟨ti', h', h''⟩ => ?_)⟩
                  · simp [part, isAgg_run hT hfi, hag, sizeOf_run hT hfi]
                  · simp [part, isAgg_run hT hfi, hag, sizeOf_run hT hfi]
                  · simpa [List.extract_eq_take_drop] using hx1
                  · simpa [List.extract_eq_take_drop] using hy1
                  · rw [hfi] at h'; cases h'; rw [hag] at h''; cases h''
                | false =>
                  have sz : ∀ {cs : List TV} {as : Array Value}, RelTs w Z β U ((cs.drop f.offset).take fi.size) ((as.toList.drop f.offset).take fi.size) → ∀ {l : Leaf} {x : l.T}, (cs.drop f.offset).take fi.size = [.d l x] → ∃ a, as[f.offset]? = some a ∧ (as.toList.drop f.offset).take fi.size = [a] := by
                    intro cs as hr l x hc
                    have hl := relTs_len hr
                    rw [hc] at hl
                    match hq : (as.toList.drop f.offset).take fi.size, hl with
                    | [a], _ =>
                      have : ((as.toList.drop f.offset).take fi.size)[0]? = some a := by rw [hq]; rfl
                      rw [List.getElem?_take] at this
                      split at this
                      · rw [List.getElem?_drop] at this
                        exact ⟨a, by simpa using this, rfl⟩
                      · cases this
                  have shape : ∃ l l', ∃ (a : Leaf.T l) (b : Leaf.T l'), (xs.drop f.offset).take fi.size = [.d l a] ∧ (ys.drop f.offset).take fi.size = [.d l' b] := by
                    cases n with
                    | zero => simp [eqT] at h1
                    | succ n =>
                      simp only [eqT, Option.bind_eq_some_iff] at h1
                      obtain ⟨ti', ht', h1⟩ := h1
                      rw [hfi] at ht'
                      cases ht'
                      split at h1
                      · rename_i hd'; simp [TI.agg, hd'] at hag
                      all_goals first
                        | (split at h1
                           · rename_i e1 e2; exact ⟨_, _, _, _, e1, e2⟩
                           · cases h1)
                        | cases h1
                  obtain ⟨l, l', a, b, ea, eb⟩ := shape
                  obtain ⟨va, h3, h4⟩ := sz hx1 ea
                  obtain ⟨vb, h5, h6⟩ := sz hy1 eb
                  refine ⟨va, vb, ?_, ?_, ih f.type _ _ r1 h1 D _ _ (by omega) (fun ⟨ti', h', h''⟩ => ?_) (fun _ => ⟨by rw [← h4]; exact hx1, by rw [← h6]; exact hy1⟩)⟩
                  · simp [part, isAgg_run hT hfi, hag, h3]
                  · simp [part, isAgg_run hT hfi, hag, h5]
                  · rw [hfi] at h'; cases h'; rw [hag] at h''; cases h''
              obtain ⟨a, b, p1, p2, p3⟩ := prt
              have p4 := ihl (fun g hg => hn g (by simp [hg])) q h2
              simp only [Op.eqFields, if_pos (hn f (by simp)), Sem.run_bind, p1, p2, p3, Result.andThen_ok]
              cases r1
              · simp
              · simp [p4]
        exact main fs.toList (hnm fs hd) r h
    | _ => rw [hd] at h; cases h
end
end Go.Te
