/-
  heliographlaw14.SenderGaps: what is claimed and what is not have, together, each byte once.
  No conditions: every input that the statement lets in. Part TeQ: own work.
-/
import Derived.Test.YtfjklknekiogcaaTeJ
import Derived.TacticsIn
import Derived.OrdersIn
import Derived.LoopNIn
set_option linter.unusedVariables false
set_option linter.unusedSimpArgs false
namespace Go.Te
open Go.RowKit

/-! ### 30. Other names -/
section
variable {w w' : World} {Z Z' : Nat → Prop} {β β' : Beta} {U U' : Nat → Option Nat} {mp : Nat → Option Nat}

/-- The new name stands for the same. -/
def Names (mp : Nat → Option Nat) (β : Beta) (U : Nat → Option Nat) (β' : Beta) (U' : Nat → Option Nat) : Prop := ∀ id j, mp id = some j → (U id).isSome = true → β' j = β id ∧ U' j = U id

theorem RelL.less (hz : ∀ b, b < w.heap.size → Z' b → Z b) {l : Leaf} {x : l.T} {v : Value} (r : RelL w Z l x v) : RelL w Z' l x v :=
  RelL.step (own := fun _ => False) (WStep.refl _ w) (fun _ _ q => q.elim) hz l x v r
theorem RelRow.less (hz : ∀ b, b < w.heap.size → Z' b → Z b) {es : List Leaf} {x : Row es} {b o : Nat} (r : RelRow w Z es x b o) : RelRow w Z' es x b o :=
  RelRow.step (own := fun _ => False) (WStep.refl _ w) (fun _ _ q => q.elim) hz es x b o (fun _ _ _ _ h => h) r

mutual
theorem RelT.ren (hm : Names mp β U β' U') (hz : ∀ b, b < w.heap.size → Z' b → Z b) : ∀ (x : TV) (v : Value), RelT w Z β U x v → RelT w Z' β' U' (renT mp x) v
  | .dead, _, _ => trivial
  | .d l x, v, r => by simp only [RelT, renT] at r ⊢; exact r.less hz
  | .nil, _, r => r
  | .agg xs, v, r => by
    simp only [RelT, renT] at r ⊢
    obtain ⟨vs, hv, hr⟩ := r
    exact ⟨vs, hv, RelTs.ren hm hz xs _ hr⟩
  | .tup xs, v, r => by
    simp only [RelT, renT] at r ⊢
    obtain ⟨vs, hv, hr⟩ := r
    exact ⟨vs, hv, RelTs.ren hm hz xs _ hr⟩
  | .fn f xs, v, r => by
    simp only [RelT, renT] at r ⊢
    obtain ⟨vs, hv, hr⟩ := r
    exact ⟨vs, hv, RelTs.ren hm hz xs _ hr⟩
  | .ptr id off, v, r => by
    simp only [RelT, renT] at r ⊢
    cases hj : mp id with
    | none => trivial
    | some j =>
      obtain ⟨h1, h2⟩ := hm id j hj r.1
      simp only [RelT, h1, h2]; exact r
  | .eptr id k i q, v, r => by
    simp only [RelT, renT] at r ⊢
    cases hj : mp id with
    | none => trivial
    | some j =>
      obtain ⟨h1, h2⟩ := hm id j hj r.1
      simp only [RelT, h1, h2]; exact r
  | .dptr es x j, v, r => by
    simp only [RelT, renT] at r ⊢
    obtain ⟨b, o, h1, h2, h3, h4⟩ := r
    exact ⟨b, o, fun q => h1 (hz b h2 q), h2, h3, h4.less hz⟩
  | .arr id k n, v, r => by
    simp only [RelT, renT] at r ⊢
    cases hj : mp id with
    | none => trivial
    | some j =>
      obtain ⟨L, hL, _⟩ := r.1
      obtain ⟨h1, h2⟩ := hm id j hj (by rw [hL]; rfl)
      simp only [RelT, h1, h2]; exact r
  | .arrF id k, v, r => by
    simp only [RelT, renT] at r ⊢
    cases hj : mp id with
    | none => trivial
    | some j =>
      obtain ⟨L, hL, _⟩ := r
      obtain ⟨h1, h2⟩ := hm id j hj (by rw [hL]; rfl)
      simp only [RelT, h1, h2]; exact ⟨L, hL, by assumption⟩
  | .raw u, _, r => r
theorem RelTs.ren (hm : Names mp β U β' U') (hz : ∀ b, b < w.heap.size → Z' b → Z b) : ∀ (xs : List TV) (vs : List Value), RelTs w Z β U xs vs → RelTs w Z' β' U' (renTs mp xs) vs
  | [], _, r => r
  | x :: xs, vs, r => by
    simp only [RelTs, renTs] at r ⊢
    obtain ⟨v, vs', hv, h1, h2⟩ := r
    exact ⟨v, vs', hv, RelT.ren hm hz x v h1, RelTs.ren hm hz xs vs' h2⟩
end

mutual
theorem relT_ids : ∀ (x : TV) (v : Value), RelT w Z β U x v → ∀ id, id ∈ idsT x → (U id).isSome = true
  | .dead, _, _, _, h => by simp [idsT] at h
  | .d _ _, _, _, _, h => by simp [idsT] at h
  | .nil, _, _, _, h => by simp [idsT] at h
  | .agg xs, v, r, id, h => by
    simp only [RelT] at r; simp only [idsT] at h
    obtain ⟨vs, _, hr⟩ := r
    exact relTs_ids xs _ hr id h
  | .tup xs, v, r, id, h => by
    simp only [RelT] at r; simp only [idsT] at h
    obtain ⟨vs, _, hr⟩ := r
    exact relTs_ids xs _ hr id h
  | .fn _ xs, v, r, id, h => by
    simp only [RelT] at r; simp only [idsT] at h
    obtain ⟨vs, _, hr⟩ := r
    exact relTs_ids xs _ hr id h
  | .ptr _ _, v, r, id, h => by simp only [RelT] at r; simp only [idsT, List.mem_singleton] at h; subst h; exact r.1
  | .eptr _ _ _ _, v, r, id, h => by simp only [RelT] at r; simp only [idsT, List.mem_singleton] at h; subst h; exact r.1
  | .dptr _ _ _, _, _, _, h => by simp [idsT] at h
  | .arr _ _ _, v, r, id, h => by simp only [RelT] at r; simp only [idsT, List.mem_singleton] at h; subst h; obtain ⟨⟨L, hL, _⟩, _⟩ := r; rw [hL]; rfl
  | .arrF _ _, v, r, id, h => by simp only [RelT] at r; simp only [idsT, List.mem_singleton] at h; subst h; obtain ⟨L, hL, _⟩ := r; rw [hL]; rfl
  | .raw _, _, _, _, h => by simp [idsT] at h
theorem relTs_ids : ∀ (xs : List TV) (vs : List Value), RelTs w Z β U xs vs → ∀ id, id ∈ idsTs xs → (U id).isSome = true
  | [], _, _, _, h => by simp [idsTs] at h
  | x :: xs, vs, r, id, h => by
    simp only [RelTs] at r
    obtain ⟨v, vs', _, h1, h2⟩ := r
    simp only [idsTs, List.mem_append] at h
    exact h.elim (relT_ids x v h1 id) (relTs_ids xs vs' h2 id)
end

theorem renO_alive (o : Obj) : (renO mp o).alive = o.alive := by cases o <;> rfl

theorem renTs_get : ∀ (xs : List TV) (i : Nat) (y : TV), (renTs mp xs)[i]? = some y → ∃ x, xs[i]? = some x ∧ y = renT mp x
  | [], i, y, h => by simp [renTs] at h
  | x :: xs, i, y, h => by
    cases i with
    | zero => simp [renTs] at h; exact ⟨x, rfl, h.symm⟩
    | succ i => simpa using renTs_get xs i y (by simpa [renTs] using h)

theorem RelObj.ren (hm : Names mp β U β' U') (hz : ∀ b, b < w.heap.size → Z' b → Z b) {id j : Nat} (hβ : β' j = β id) (hU : U' j = U id) {o : Obj} (h : RelObj w Z β U id o) : RelObj w Z' β' U' j (renO mp o) := by
  cases o with
  | dead => trivial
  | box cs =>
    obtain ⟨b, o, h1, h2, h3, h4⟩ := h
    refine ⟨b, o, by rw [hβ]; exact h1, h2, h3, fun i t ht => ?_⟩
    obtain ⟨x, hx, rfl⟩ := renTs_get cs i t ht
    obtain ⟨v, hv, hr⟩ := h4 i x hx
    exact ⟨v, hv, RelT.ren hm hz x v hr⟩
  | arr e es xs =>
    obtain ⟨h1, h2⟩ := h
    refine ⟨by rw [hU]; exact h1, ?_⟩
    rw [hβ]
    exact h2.imp (fun q => q) fun ⟨b, cur, h3, h4, h5⟩ => ⟨b, cur, h3, h4, fun i x hx => (h5 i x hx).less hz⟩

theorem RelObj.step {ow : Nat → Prop} (h : WStep ow w w') (ho : ∀ b, b < w.heap.size → ow b → Z b) (hz : ∀ b, b < w.heap.size → Z' b → Z b) (hle : Beta.le U β β') (hn : ∀ id l, U id = some l → U' id = some l)
    {id : Nat} (hU : (U id).isSome = true) {o : Obj} (hb : ∀ b q, β id = some (b, q) → ¬ ow b) (r : RelObj w Z β U id o) : RelObj w' Z' β' U' id o := by
  cases o with
  | dead => trivial
  | box cs =>
    obtain ⟨b, q, h1, h2, h3, h4⟩ := r
    refine ⟨b, q, by rw [hle id hU]; exact h1, Nat.lt_of_lt_of_le h2 h.size, fun p => by rw [h.frozen b p h2]; exact h3 p, fun i t ht => ?_⟩
    obtain ⟨v, hv, hr⟩ := h4 i t ht
    exact ⟨v, h.cell (hb b q h1) hv, RelT.step h ho hz hle hn t v hr⟩
  | arr e es xs =>
    obtain ⟨h1, h2⟩ := r
    refine ⟨hn id _ h1, ?_⟩
    rw [hle id hU]
    refine h2.imp (fun q => q) fun ⟨b, cur, h3, h4, h5⟩ => ⟨b, cur, h3, ?_, fun i x hx => ?_⟩
    · rw [h.block b (Array.getElem?_eq_some_iff.1 h4).1 (hb b 0 h3)]; exact h4
    · exact RelRow.step h ho hz es x b _ (fun p v _ _ hv => h.cell (hb b 0 h3) hv) (h5 i x hx)

/-! ### 31. What is gathered -/
theorem place_spec {m : List Nat} {id j : Nat} (h : place m id = some j) : m[j]? = some id := by
  simp only [place] at h
  cases hd : decide (m.idxOf id < m.length) with
  | false => rw [hd] at h; cases h
  | true =>
    rw [hd] at h
    simp only [cond_true, Option.some.injEq] at h
    have hlt := of_decide_eq_true hd
    subst h
    rw [List.getElem?_eq_getElem hlt, List.getElem_idxOf]
theorem place_of {m : List Nat} (hn : m.Nodup) {id j : Nat} (h : m[j]? = some id) : place m id = some j := by
  obtain ⟨hlt, he⟩ := List.getElem?_eq_some_iff.1 h
  have hi : m.idxOf id = j := by rw [← he]; exact hn.idxOf_getElem j hlt
  simp [place, hi, hlt]
theorem place_none {m : List Nat} {id : Nat} (h : place m id = none) : id ∉ m := fun hm => by
  have := List.idxOf_lt_length_of_mem hm
  simp [place, this] at h

theorem gather_ok (objs : Nat → Obj) (ok : Nat → Prop) (hok : ∀ id, ok id → ∀ j ∈ idsO (objs id), ok j) : ∀ (n : Nat) (todo : List Nat) (found : List (Nat × Obj)) (rd : List Nat) (l : List (Nat × Obj)),
    (gather n todo found).Runs objs rd l → (∀ id ∈ todo, ok id) → (∀ p ∈ found, p.2 = objs p.1 ∧ ok p.1) → (found.map (·.1)).Nodup →
    (∀ p ∈ l, p.2 = objs p.1 ∧ ok p.1) ∧ (l.map (·.1)).Nodup ∧ ∃ more, l = found.reverse ++ more
  | n, [], found, rd, l, h, _, h2, h3 => by
    cases n <;>
    · obtain ⟨rfl, _⟩ := h
      exact ⟨fun p hp => h2 p (by simpa using hp), by rw [List.map_reverse]; exact (List.reverse_perm _).nodup_iff.2 h3, [], by simp⟩
  | 0, _ :: _, _, _, _, h, _, _, _ => h.elim
  | n + 1, id :: todo, found, rd, l, h, h1, h2, h3 => by
    simp only [gather] at h
    cases hc : (found.any fun p => p.1 == id) with
    | true =>
      rw [hc] at h
      exact gather_ok objs ok hok n todo found rd l h (fun j hj => h1 j (by simp [hj])) h2 h3
    | false =>
      rw [hc] at h
      obtain ⟨rd', _, h⟩ := h
      have hid := h1 id (by simp)
      obtain ⟨q1, q2, more, q3⟩ := gather_ok objs ok hok n _ _ rd' l h (fun j hj => by
        rcases List.mem_append.1 hj with hj | hj
        · exact h1 j (by simp [hj])
        · exact hok id hid j hj) (fun p hp => by
        rcases List.mem_cons.1 hp with rfl | hp
        · exact ⟨rfl, hid⟩
        · exact h2 p hp) (by
        simp only [List.map_cons, List.nodup_cons]
        refine ⟨fun hm => ?_, h3⟩
        obtain ⟨p, hp, he⟩ := List.mem_map.1 hm
        simp only [List.any_eq_false, beq_iff_eq] at hc
        exact hc p hp he)
      exact ⟨q1, q2, (id, objs id) :: more, by rw [q3]; simp⟩

theorem use_of {objs : Nat → Obj} (hO : RelO w Z β U objs) (id : Nat) (_ : (U id).isSome = true) : ∀ j ∈ idsO (objs id), (U j).isSome = true := by
  intro j hj
  have hr := hO.obj id
  cases ho : objs id with
  | box cs =>
    rw [ho] at hr hj
    obtain ⟨b, o, _, _, _, h4⟩ := hr
    simp only [idsO] at hj
    have : ∀ (cs : List TV), (∀ (i : Nat) t, cs[i]? = some t → ∃ v, RelT w (zz objs β Z) β U t v) → j ∈ idsTs cs → (U j).isSome = true := by
      intro cs
      induction cs with
      | nil => intro _ h; simp [idsTs] at h
      | cons t cs ih =>
        intro hall h
        simp only [idsTs, List.mem_append] at h
        rcases h with h | h
        · obtain ⟨v, hv⟩ := hall 0 t rfl
          exact relT_ids t v hv j h
        · exact ih (fun i t ht => hall (i + 1) t (by simpa using ht)) h
    exact this cs (fun i t ht => let ⟨v, _, hv⟩ := h4 i t ht; ⟨v, hv⟩) hj
  | _ => rw [ho] at hj; simp [idsO] at hj

/-! ### 32. A part of the objects, by their places in a list -/
def nameU (m : List Nat) (U : Nat → Option Nat) : Nat → Option Nat := fun j => (m[j]?).bind U
def nameB (m : List Nat) (β : Beta) : Beta := fun j => (m[j]?).bind β

theorem names_place (m : List Nat) (β : Beta) (U : Nat → Option Nat) : Names (place m) β U (nameB m β) (nameU m U) := fun id j h _ => by
  have := place_spec h
  simp [nameB, nameU, this]

variable {objs : Nat → Obj} {m : List Nat}
theorem objs_at (j : Nat) : objsOf (m.map fun id => renO (place m) (objs id)) j = match m[j]? with | some id => renO (place m) (objs id) | none => .dead := by
  simp only [objsOf, List.getElem?_map]
  cases m[j]? <;> rfl

theorem own_part {b : Nat} (h : own (objsOf (m.map fun id => renO (place m) (objs id))) (nameB m β) b) : ∃ id o, id ∈ m ∧ (objs id).alive = true ∧ β id = some (b, o) := by
  obtain ⟨j, o, ha, hb⟩ := h
  rw [objs_at] at ha
  cases hj : m[j]? with
  | none => rw [hj] at ha; cases ha
  | some id =>
    rw [hj] at ha
    simp only [renO_alive] at ha
    exact ⟨id, o, List.mem_of_getElem? hj, ha, by simpa [nameB, hj] using hb⟩

theorem part_ok (hO : RelO w Z β U objs) (hn : m.Nodup) (hu : ∀ id ∈ m, (U id).isSome = true) (hZ1 : ∀ b, Z' b → zz objs β Z b) (hZ2 : ∀ b, Z' b → ∀ id o, id ∈ m → (objs id).alive = true → β id ≠ some (b, o)) :
    RelO w Z' (nameB m β) (nameU m U) (objsOf (m.map fun id => renO (place m) (objs id))) ∧ ∀ b, zz (objsOf (m.map fun id => renO (place m) (objs id))) (nameB m β) Z' b → zz objs β Z b := by
  have hsub : ∀ b, zz (objsOf (m.map fun id => renO (place m) (objs id))) (nameB m β) Z' b → zz objs β Z b := fun b h => by
    rcases h with h | h
    · exact hZ1 b h
    · obtain ⟨id, o, _, ha, hb⟩ := own_part h
      exact .inr ⟨id, o, ha, hb⟩
  refine ⟨⟨fun j => ?_, fun i j b o o' hi hj h1 h2 => ?_, fun j hj => ?_, fun b hb => zz_lt hO (hZ1 b hb), fun b hb h => ?_⟩, hsub⟩
  · rw [objs_at]
    cases hj : m[j]? with
    | none => trivial
    | some id => exact RelObj.ren (names_place m β U) (fun b _ h => hsub b h) (by simp [nameB, hj]) (by simp [nameU, hj]) (hO.obj id)
  · rw [objs_at] at hi hj
    cases hmi : m[i]? with
    | none => rw [hmi] at hi; cases hi
    | some p =>
      cases hmj : m[j]? with
      | none => rw [hmj] at hj; cases hj
      | some q =>
        rw [hmi] at hi
        rw [hmj] at hj
        simp only [renO_alive] at hi hj
        simp only [nameB, hmi, hmj, Option.bind_some] at h1 h2
        have := hO.inj p q b o o' hi hj h1 h2
        subst this
        have e1 := place_of hn hmi
        rw [place_of hn hmj] at e1
        exact (Option.some.inj e1).symm
  · rw [objs_at]
    cases hmj : m[j]? with
    | none => rfl
    | some id =>
      have := hu id (List.mem_of_getElem? hmj)
      simp only [nameU, hmj, Option.bind_some] at hj
      rw [hj] at this; cases this
  · obtain ⟨id, o, hm, ha, hb'⟩ := own_part h
    exact hZ2 b hb id o hm ha hb'
end
end Go.Te
set_option linter.unusedVariables false
set_option linter.unusedSimpArgs false
namespace Go.Te
open Go.RowKit

/-! ### 33. Calls -/
/-- What came over a whole part: the first np names stand for what they stood for. -/
structure Far (np : Nat) (w : World) (β : Beta) (U : Nat → Option Nat) (objs : Nat → Obj) (w' : World) (β' : Beta) (U' : Nat → Option Nat) (objs' : Nat → Obj) : Prop where
  step : WStep (own objs β) w w'
  own : ∀ x, x < w.heap.size → own objs' β' x → own objs β x
  le : ∀ id, id < np → β' id = β id
  sub : ∀ id, id < np → U' id = U id

theorem Far.refl (np : Nat) (w : World) (β : Beta) (U : Nat → Option Nat) (objs : Nat → Obj) : Far np w β U objs w β U objs := ⟨WStep.refl _ _, fun _ _ h => h, fun _ _ => rfl, fun _ _ => rfl⟩
theorem Far.trans {np : Nat} {w w1 w2 : World} {β β1 β2 : Beta} {U U1 U2 : Nat → Option Nat} {objs objs1 objs2 : Nat → Obj} (f : Far np w β U objs w1 β1 U1 objs1) (g : Far np w1 β1 U1 objs1 w2 β2 U2 objs2) : Far np w β U objs w2 β2 U2 objs2 :=
  ⟨f.step.trans g.step f.own, fun x hx h => f.own x hx (g.own x (Nat.lt_of_lt_of_le hx f.step.size) h), fun id h => (g.le id h).trans (f.le id h), fun id h => (g.sub id h).trans (f.sub id h)⟩
theorem Fit.far {w w' : World} {β β' : Beta} {U U' : Nat → Option Nat} {objs objs' : Nat → Obj} {lo hi : Nat} (f : Fit w β U objs w' β' U' objs' lo hi) {np : Nat} (hnp : ∀ id, id < np → (U id).isSome = true) : Far np w β U objs w' β' U' objs' :=
  ⟨f.step, f.own, fun id h => f.le id (hnp id h), fun id h => by
    obtain ⟨l, hl⟩ := Option.isSome_iff_exists.1 (hnp id h)
    rw [hl]; exact f.sub id l hl⟩

structure Entry (w : World) (Z : Nat → Prop) (β : Beta) (U : Nat → Option Nat) (args : List TV) (vs : Array Value) (objs : List Obj) : Prop where
  vals : RelTs w (zz (objsOf objs) β Z) β U args vs.toList
  obs : RelO w Z β U (objsOf objs)
  use : ∀ j, (U j).isSome = true ↔ j < objs.length

def Told (w : World) (Z : Nat → Prop) (β : Beta) (U : Nat → Option Nat) (objs : List Obj) (w' : World) (v : Value) (rv : TV) (robjs : List Obj) : Prop :=
  ∃ β' U', RelT w' (zz (objsOf robjs) β' Z) β' U' rv v ∧ RelO w' Z β' U' (objsOf robjs) ∧ Far objs.length w β U (objsOf objs) w' β' U' (objsOf robjs) ∧ ∀ j, (U' j).isSome = true → j < robjs.length

def Enters (P : Program) (f : Nat) : Prop := ∃ fn, P.funcs[f]? = some fn ∧ (fn.name == "runtime.NumGoroutine") = false ∧ fn.body.isNone = false

def CallOK (P : Program) {R : Type} (call : Nat → List TV → List Obj → (TV → List Obj → Option R) → Option R) : Prop :=
  ∀ f args objs K r, call f args objs K = some r → Enters P f ∧ ∀ w Z β U vs, Entry w Z β U args vs objs →
    Calls P f vs w fun e w' => ∃ v rv robjs, e = .returned v ∧ K rv robjs = some r ∧ Told w Z β U objs w' v rv robjs

def ConOK (P : Program) (f : Nat) (c : Con) : Prop :=
  ∀ (R : Type) args objs (K : TV → List Obj → Option R) r, c.run R args objs K = some r → Enters P f ∧ ∀ w Z β U vs, Entry w Z β U args vs objs →
    Calls P f vs w fun e w' => ∃ v rv robjs, e = .returned v ∧ K rv robjs = some r ∧ Told w Z β U objs w' v rv robjs
/-- It comes to one answer, whatever is done with it. -/
def Con.natural (c : Con) : Prop := ∀ (R : Type) args objs (K : TV → List Obj → Option R), c.run R args objs K = (c.run (TV × List Obj) args objs fun v o => some (v, o)).bind fun p => K p.1 p.2

theorem CallOK.once {P : Program} {call : (R : Type) → Nat → List TV → List Obj → (TV → List Obj → Option R) → Option R} (h : ∀ R, CallOK P (call R)) (R : Type) : CallOK P (once (R := R) call) := by
  intro f args objs K r hr
  obtain ⟨p, h1, h2⟩ := Option.bind_eq_some_iff.1 hr
  obtain ⟨he, hc⟩ := h (TV × List Obj) f args objs _ p h1
  refine ⟨he, fun w Z β U vs hE => (hc w Z β U vs hE).mono fun e w' ⟨v, rv, robjs, h3, h4, h5⟩ => ?_⟩
  cases h4
  exact ⟨v, rv, robjs, h3, h2, h5⟩

section
variable {P : Program} {w w' : World} {Z : Nat → Prop} {β : Beta} {U : Nat → Option Nat} {objs : Nat → Obj} {m : List Nat} {id0 : Nat}

/-- The forbidden blocks of a callee: those of the objects that it is not handed, too. -/
def Zof (Z : Nat → Prop) (β : Beta) (objs : Nat → Obj) (m : List Nat) (b : Nat) : Prop := Z b ∨ ∃ id o, id ∉ m ∧ (objs id).alive = true ∧ β id = some (b, o)

theorem enter_ok (hO : RelO w Z β U objs) (hn : m.Nodup) (hu : ∀ id ∈ m, (U id).isSome = true) :
    RelO w (Zof Z β objs m) (nameB m β) (nameU m U) (objsOf (m.map fun id => renO (place m) (objs id))) ∧ (∀ b, zz (objsOf (m.map fun id => renO (place m) (objs id))) (nameB m β) (Zof Z β objs m) b → zz objs β Z b) ∧ ∀ j, ((nameU m U) j).isSome = true ↔ j < (m.map fun id => renO (place m) (objs id)).length := by
  obtain ⟨h1, h2⟩ := part_ok (Z' := Zof Z β objs m) hO hn hu (fun b h => h.elim .inl fun ⟨id, o, _, ha, hb⟩ => .inr ⟨id, o, ha, hb⟩) (fun b h id o hm ha hb => by
    rcases h with h | ⟨id', o', hm', ha', hb'⟩
    · exact hO.apart b h ⟨id, o, ha, hb⟩
    · have := hO.inj id id' b o o' ha ha' hb hb'
      subst this
      exact hm' hm)
  refine ⟨h1, h2, fun j => ?_⟩
  rw [List.length_map]
  simp only [nameU]
  constructor
  · intro h
    cases hj : m[j]? with
    | none => rw [hj] at h; cases h
    | some id => exact (List.getElem?_eq_some_iff.1 hj).1
  · intro h
    rw [List.getElem?_eq_getElem h]
    exact hu _ (List.getElem_mem h)

/-- The callee's name of the caller's. -/
def locN (m : List Nat) (id0 k : Nat) (id : Nat) : Option Nat := if id0 ≤ id ∧ id < id0 + k then some (m.length + (id - id0)) else place m id
def outN (m : List Nat) (id0 : Nat) (j : Nat) : Option Nat := bif Nat.blt j m.length then m[j]? else some (id0 + (j - m.length))

theorem addO_at (os : List Obj) : ∀ (objs : Nat → Obj) (id0 id : Nat), addO objs id0 os id = if id0 ≤ id ∧ id < id0 + os.length then (os[id - id0]?).getD .dead else objs id := by
  induction os with
  | nil => intro objs id0 id; rw [if_neg (by simp)]; rfl
  | cons o os ih =>
    intro objs id0 id
    simp only [addO]
    rw [ih, beq_if]
    simp only [List.length_cons]
    by_cases h1 : id = id0
    · subst h1
      rw [if_neg (by omega), if_pos rfl, if_pos (by omega)]
      simp
    · by_cases h2 : id0 ≤ id ∧ id < id0 + (os.length + 1)
      · rw [if_pos (by omega), if_pos h2]
        obtain ⟨k, rfl⟩ : ∃ k, id = id0 + (k + 1) := ⟨id - id0 - 1, by omega⟩
        rw [show id0 + (k + 1) - (id0 + 1) = k by omega, show id0 + (k + 1) - id0 = k + 1 by omega]
        simp
      · rw [if_neg (by omega), if_neg h2, if_neg h1]

theorem updO_zip (g : Nat → Obj) : ∀ (m : List Nat) (os : List Obj) (objs : Nat → Obj), m.Nodup → m.length ≤ os.length → ∀ id, updO objs (m.zip os) id = match place m id with | some j => (os[j]?).getD .dead | none => objs id
  | [], os, objs, _, _, id => by simp [updO, place]
  | a :: m, [], objs, _, h, id => by simp at h
  | a :: m, o :: os, objs, hn, hl, id => by
    simp only [List.zip_cons_cons, updO]
    have hn' := List.nodup_cons.1 hn
    rw [updO_zip g m os _ hn'.2 (by simpa using hl) id, beq_if]
    by_cases h : id = a
    · subst h
      have h1 : place m id = none := by
        cases hp : place m id with
        | none => rfl
        | some j => exact absurd (List.mem_of_getElem? (place_spec hp)) hn'.1
      have h2 : place (id :: m) id = some 0 := place_of hn rfl
      rw [h1, h2, if_pos rfl]
      rfl
    · cases hp : place m id with
      | none =>
        have h2 : place (a :: m) id = none := by
          cases hq : place (a :: m) id with
          | none => rfl
          | some j =>
            have := List.mem_of_getElem? (place_spec hq)
            rcases List.mem_cons.1 this with e | e
            · exact absurd e h
            · exact absurd e (place_none hp)
        rw [h2]
        simp only [if_neg h]
      | some j =>
        have h2 : place (a :: m) id = some (j + 1) := place_of hn (by simpa using place_spec hp)
        rw [h2]
        simp

theorem back_at (hn : m.Nodup) {robjs : List Obj} (hl : m.length ≤ robjs.length) (hfresh : ∀ id, id ∈ m → ¬ (id0 ≤ id ∧ id < id0 + (robjs.length - m.length))) (r : TV) (id : Nat) :
    (back m id0 r robjs).objs objs id0 id = match locN m id0 (robjs.length - m.length) id with | some j => renO (outN m id0) (objsOf robjs j) | none => objs id := by
  have e1 : (back m id0 r robjs).objs objs id0 = addO (updO objs (m.zip ((robjs.take m.length).map (renO (outN m id0))))) id0 ((robjs.drop m.length).map (renO (outN m id0))) := rfl
  rw [e1, addO_at, updO_zip (fun _ => .dead) m _ objs hn (by simp; omega)]
  simp only [List.length_map, List.length_drop, locN]
  have dd : renO (outN m id0) Obj.dead = .dead := rfl
  by_cases h : id0 ≤ id ∧ id < id0 + (robjs.length - m.length)
  · rw [if_pos h, if_pos h]
    simp only [objsOf, List.getElem?_map, List.getElem?_drop]
    cases robjs[m.length + (id - id0)]? <;> rfl
  · rw [if_neg h, if_neg h]
    cases hp : place m id with
    | none => rfl
    | some j =>
      have hj : j < m.length := (List.getElem?_eq_some_iff.1 (place_spec hp)).1
      simp only [objsOf, List.getElem?_map, List.getElem?_take, hj, if_true]
      cases robjs[j]? <;> rfl

/-- A callee's answer in the caller's names. -/
theorem leave_ok (hO : RelO w Z β U objs) (hn : m.Nodup) (hu : ∀ id ∈ m, (U id).isSome = true) (hfresh : ∀ id, id0 ≤ id → id < id0 + 32 → U id = none) {robjs : List Obj} {v : Value} {rv : TV} (hl : m.length ≤ robjs.length) (hl2 : robjs.length ≤ m.length + 32)
    (ht : Told w (Zof Z β objs m) (nameB m β) (nameU m U) (m.map fun id => renO (place m) (objs id)) w' v rv robjs) :
    ∃ β' U', RelT w' (zz ((back m id0 rv robjs).objs objs id0) β' Z) β' U' (back m id0 rv robjs).v v ∧ RelO w' Z β' U' ((back m id0 rv robjs).objs objs id0) ∧ Fit w β U objs w' β' U' ((back m id0 rv robjs).objs objs id0) id0 (id0 + 32) := by
  obtain ⟨βr, Ur, hv, hOr, hF, hlen⟩ := ht
  have hfr : ∀ id, id ∈ m → ¬ (id0 ≤ id ∧ id < id0 + (robjs.length - m.length)) := fun id hm h => by
    have := hu id hm
    rw [hfresh id h.1 (by omega)] at this
    cases this
  generalize hk : robjs.length - m.length = k at hfr
  have hat : ∀ id, (back m id0 rv robjs).objs objs id0 id = match locN m id0 k id with | some j => renO (outN m id0) (objsOf robjs j) | none => objs id := fun id => by
    have := back_at (objs := objs) hn hl (by rw [hk]; exact hfr) rv id
    rwa [hk] at this
  generalize (back m id0 rv robjs).objs objs id0 = objs2 at hat
  -- the two ways of names
  have loc_out : ∀ {id j}, locN m id0 k id = some j → outN m id0 j = some id := fun {id j} h => by
    simp only [locN] at h
    split at h
    · rename_i hc
      cases h
      have : Nat.blt (m.length + (id - id0)) m.length = false := by
        cases hb : Nat.blt (m.length + (id - id0)) m.length with
        | false => rfl
        | true => rw [Nat.blt_eq] at hb; omega
      simp only [outN, this, cond_false, Option.some.injEq]
      omega
    · have hs := place_spec h
      have hj : j < m.length := (List.getElem?_eq_some_iff.1 hs).1
      have : Nat.blt j m.length = true := by rw [Nat.blt_eq]; exact hj
      simp only [outN, this, cond_true, hs]
  have out_loc : ∀ {id j}, outN m id0 j = some id → j < robjs.length → locN m id0 k id = some j := fun {id j} h hj => by
    simp only [outN] at h
    cases hb : Nat.blt j m.length with
    | true =>
      rw [hb] at h
      simp only [cond_true] at h
      simp only [locN]
      rw [if_neg (hfr id (List.mem_of_getElem? h))]
      exact place_of hn h
    | false =>
      rw [hb] at h
      simp only [cond_false, Option.some.injEq] at h
      have hj2 : m.length ≤ j := by
        rcases Nat.lt_or_ge j m.length with q | q
        · have hb2 : Nat.blt j m.length = true := by rw [Nat.blt_eq]; exact q
          rw [hb2] at hb; cases hb
        · exact q
      simp only [locN]
      rw [if_pos (by omega)]
      congr 1
      omega
  have loc_inj : ∀ {i j q}, locN m id0 k i = some q → locN m id0 k j = some q → i = j := fun {i j q} h1 h2 => Option.some.inj ((loc_out h1).symm.trans (loc_out h2))
  have loc_mem : ∀ {id}, id ∈ m → ∃ j, locN m id0 k id = some j ∧ m[j]? = some id := fun {id} h => by
    obtain ⟨j, hj⟩ := List.getElem?_of_mem h
    refine ⟨j, ?_, hj⟩
    simp only [locN]
    rw [if_neg (hfr id h)]
    exact place_of hn hj
  let β2 : Beta := fun id => match locN m id0 k id with | some j => βr j | none => β id
  let U2 : Nat → Option Nat := fun id => match locN m id0 k id with | some j => Ur j | none => U id
  have hβ2 : ∀ {id j}, locN m id0 k id = some j → β2 id = βr j := fun {id j} h => by simp only [β2, h]
  have hU2 : ∀ {id j}, locN m id0 k id = some j → U2 id = Ur j := fun {id j} h => by simp only [U2, h]
  have hβn : ∀ {id}, locN m id0 k id = none → β2 id = β id := fun {id} h => by simp only [β2, h]
  have hUn : ∀ {id}, locN m id0 k id = none → U2 id = U id := fun {id} h => by simp only [U2, h]
  have hnames : Names (outN m id0) βr Ur β2 U2 := fun j id hj hu => by
    have := out_loc hj (hlen j hu)
    exact ⟨hβ2 this, hU2 this⟩
  have hown2 : ∀ x, own objs2 β2 x → own (objsOf robjs) βr x ∨ ∃ id o, id ∉ m ∧ (objs id).alive = true ∧ β id = some (x, o) := by
    rintro x ⟨id, o, ha, hb⟩
    rw [hat] at ha
    cases hq : locN m id0 k id with
    | some j =>
      rw [hq] at ha
      simp only [renO_alive] at ha
      rw [hβ2 hq] at hb
      exact .inl ⟨j, o, ha, hb⟩
    | none =>
      rw [hq] at ha
      rw [hβn hq] at hb
      refine .inr ⟨id, o, fun hm => ?_, ha, hb⟩
      obtain ⟨j, hj, _⟩ := loc_mem hm
      rw [hq] at hj; cases hj
  have hzz : ∀ x, zz objs2 β2 Z x → zz (objsOf robjs) βr (Zof Z β objs m) x := fun x h => by
    rcases h with h | h
    · exact .inl (.inl h)
    · rcases hown2 x h with h | h
      · exact .inr h
      · exact .inl (.inr h)
  have hownr : ∀ x, x < w.heap.size → own (objsOf robjs) βr x → ∃ id o, id ∈ m ∧ (objs id).alive = true ∧ β id = some (x, o) := fun x hx h => own_part (hF.own x hx h)
  have hown : ∀ x, x < w.heap.size → own objs2 β2 x → own objs β x := fun x hx h => by
    rcases hown2 x h with h | ⟨id, o, _, ha, hb⟩
    · obtain ⟨id, o, _, ha, hb⟩ := hownr x hx h
      exact ⟨id, o, ha, hb⟩
    · exact ⟨id, o, ha, hb⟩
  have hle : Beta.le U β β2 := fun id hid => by
    cases hq : locN m id0 k id with
    | none => exact hβn hq
    | some j =>
      rw [hβ2 hq]
      simp only [locN] at hq
      split at hq
      · rename_i hc
        rw [hfresh id hc.1 (by omega)] at hid
        cases hid
      · have hs := place_spec hq
        have hj : j < m.length := (List.getElem?_eq_some_iff.1 hs).1
        rw [hF.le j (by simpa using hj)]
        simp [nameB, hs]
  have hsub : ∀ id l, U id = some l → U2 id = some l := fun id l hid => by
    cases hq : locN m id0 k id with
    | none => rw [hUn hq]; exact hid
    | some j =>
      rw [hU2 hq]
      simp only [locN] at hq
      split at hq
      · rename_i hc
        rw [hfresh id hc.1 (by omega)] at hid
        cases hid
      · have hs := place_spec hq
        have hj : j < m.length := (List.getElem?_eq_some_iff.1 hs).1
        rw [hF.sub j (by simpa using hj)]
        simp [nameU, hs, hid]
  have hstepOwn : ∀ x, own (objsOf (m.map fun id => renO (place m) (objs id))) (nameB m β) x → own objs β x := fun x h => by
    obtain ⟨id, o, _, ha, hb⟩ := own_part h
    exact ⟨id, o, ha, hb⟩
  refine ⟨β2, U2, ?_, ⟨fun id => ?_, fun i j b o o' hi hj h1 h2 => ?_, fun id hid => ?_, fun b hb => Nat.lt_of_lt_of_le (hO.zlt b hb) hF.step.size, fun b hb h => ?_⟩, ⟨hF.step.mono (fun x _ h => hstepOwn x h), hown, hle, hsub, fun id hid => ?_⟩⟩
  · exact RelT.ren hnames (fun b _ h => hzz b h) rv v hv
  · rw [hat]
    cases hq : locN m id0 k id with
    | some j => exact RelObj.ren hnames (fun b _ h => hzz b h) (hβ2 hq) (hU2 hq) (hOr.obj j)
    | none =>
      cases ha : (objs id).alive with
      | false =>
        cases ho : objs id with
        | dead => trivial
        | _ => rw [ho] at ha; cases ha
      | true =>
        have hid := hO.alive_U ha
        refine RelObj.step hF.step (fun b _ h => .inr (hstepOwn b h)) (fun b hb h => h.imp (fun q => q) (hown b hb)) hle hsub hid (fun b q hb ho => ?_) (hO.obj id)
        obtain ⟨id', o', hm', ha', hb'⟩ := own_part ho
        have := hO.inj id id' b q o' ha ha' hb hb'
        subst this
        obtain ⟨j, hj, _⟩ := loc_mem hm'
        rw [hq] at hj; cases hj
  · have mixed : ∀ {i j o o'}, (objs2 i).alive = true → (objs2 j).alive = true → β2 i = some (b, o) → β2 j = some (b, o') → ∀ {p}, locN m id0 k i = some p → locN m id0 k j = none → False := by
      intro i j o o' hi hj h1 h2 p hp hq
      rw [hat, hp] at hi
      simp only [renO_alive] at hi
      rw [hat, hq] at hj
      rw [hβ2 hp] at h1
      rw [hβn hq] at h2
      have hlt : b < w.heap.size := own_lt hO ⟨j, o', hj, h2⟩
      obtain ⟨id', o2, hm', ha', hb'⟩ := hownr b hlt ⟨p, o, hi, h1⟩
      have := hO.inj j id' b o' o2 hj ha' h2 hb'
      subst this
      obtain ⟨q, hq', _⟩ := loc_mem hm'
      rw [hq] at hq'; cases hq'
    cases hp : locN m id0 k i with
    | some p =>
      cases hq : locN m id0 k j with
      | some q =>
        rw [hat, hp] at hi
        rw [hat, hq] at hj
        simp only [renO_alive] at hi hj
        rw [hβ2 hp] at h1
        rw [hβ2 hq] at h2
        have := hOr.inj p q b o o' hi hj h1 h2
        subst this
        exact loc_inj hp hq
      | none => exact (mixed hi hj h1 h2 hp hq).elim
    | none =>
      cases hq : locN m id0 k j with
      | some q => exact (mixed hj hi h2 h1 hq hp).elim
      | none =>
        rw [hat, hp] at hi
        rw [hat, hq] at hj
        rw [hβn hp] at h1
        rw [hβn hq] at h2
        exact hO.inj i j b o o' hi hj h1 h2
  · rw [hat]
    cases hq : locN m id0 k id with
    | some j =>
      rw [hU2 hq] at hid
      simp only [hOr.lim j hid]
      rfl
    | none =>
      rw [hUn hq] at hid
      exact hO.lim id hid
  · rcases hown2 b h with h | ⟨id, o, _, ha, hb'⟩
    · exact hOr.apart b (.inl hb) h
    · exact hO.apart b hb ⟨id, o, ha, hb'⟩
  · cases hq : locN m id0 k id with
    | none => rw [hUn hq] at hid; exact .inl hid
    | some j =>
      rw [hU2 hq] at hid
      simp only [locN] at hq
      split at hq
      · rename_i hc
        exact .inr ⟨hc.1, by omega⟩
      · have hs := place_spec hq
        have hj : j < m.length := (List.getElem?_eq_some_iff.1 hs).1
        rw [hF.sub j (by simpa using hj)] at hid
        exact .inl (by simpa [nameU, hs] using hid)
end
end Go.Te
set_option linter.unusedVariables false
set_option linter.unusedSimpArgs false
namespace Go.Te
open Go.RowKit

/-! ### 34. Arguments that are data -/
section
variable {P : Program} {E : Env} {w w' : World} {Z : Nat → Prop} {β : Beta} {U : Nat → Option Nat} {objs : Nat → Obj} {id0 : Nat}

theorem toLVs_ok (hO : RelO w Z β U objs) : ∀ (ts : List TV) (vs : List Value) (rd : List Nat) (r : List LV × List Nat), RelTs w (zz objs β Z) β U ts vs → (toLVs ts).Runs objs rd r → ∀ {objs' : Nat → Obj}, Killed objs objs' r.2 →
    r.1.length = ts.length ∧ ∀ (i : Nat) (l : LV), r.1[i]? = some l → ∃ v, vs[i]? = some v ∧ RelL w (zz objs' β Z) l.l l.x v
  | [], vs, rd, r, hx, h, objs', hk => by
    obtain ⟨rfl, _⟩ := h
    exact ⟨rfl, fun i l h => by simp at h⟩
  | t :: ts, vs, rd, r, hx, h, objs', hk => by
    simp only [RelTs] at hx
    obtain ⟨v, vs', rfl, hx, hxs⟩ := hx
    obtain ⟨_, _, a, ha, h, _⟩ := Prog.runs_bind _ _ h
    obtain ⟨_, _, q, hq, h, _⟩ := Prog.runs_bind _ _ h
    obtain ⟨rfl, _⟩ := h
    have h1 := toLV_ok hO hx ha hk.left
    obtain ⟨h2, h3⟩ := toLVs_ok hO ts vs' _ q hxs hq hk.right
    refine ⟨by simp [h2], fun i l hl => ?_⟩
    cases i with
    | zero => simp only [List.getElem?_cons_zero, Option.some.injEq] at hl; subst hl; exact ⟨v, rfl, h1⟩
    | succ i => simp only [List.getElem?_cons_succ] at hl ⊢; exact h3 i l hl

theorem mkRow_rel {ZZ : Nat → Prop} {b : Nat} : ∀ (ls : List LV) (o : Nat), (∀ (i : Nat) (l : LV), ls[i]? = some l → ∃ v, w.cell? ⟨b, o + i, none⟩ = some v ∧ RelL w ZZ l.l l.x v) → RelRow w ZZ (ls.map LV.l) (mkRow ls) b o
  | [], _, _ => trivial
  | [l], o, h => by
    simp only [List.map_cons, List.map_nil, mkRow, RelRow]
    exact h 0 l rfl
  | l :: l' :: ls, o, h => by
    simp only [List.map_cons, mkRow, RelRow]
    refine ⟨h 0 l rfl, mkRow_rel (l' :: ls) (o + 1) fun i m hm => ?_⟩
    obtain ⟨v, hv, hr⟩ := h (i + 1) m hm
    exact ⟨v, by rw [← hv]; congr 2; omega, hr⟩

theorem capData_ok (hO : RelO w Z β U objs) {x : TV} {v : Value} {rd : List Nat} {p : TV × List Nat} (hx : RelT w (zz objs β Z) β U x v) (h : (capData x).Runs objs rd p) {objs' : Nat → Obj} (hk : Killed objs objs' p.2)
    {Z' : Nat → Prop} {β' : Beta} {U' : Nat → Option Nat} (hz : ∀ b, b < w.heap.size → Z' b → zz objs' β Z b) : RelT w Z' β' U' p.1 v := by
  cases x with
  | d l y =>
    obtain ⟨rfl, _⟩ := h
    simp only [RelT] at hx ⊢
    exact (hx.kill hk.each).less hz
  | dptr es y j =>
    obtain ⟨rfl, _⟩ := h
    simp only [RelT] at hx ⊢
    obtain ⟨b, o, hnz, hlt, hv, hr⟩ := hx
    have hsub : ∀ b, b < w.heap.size → Z' b → zz objs β Z b := fun b hb q => (hz b hb q).imp (fun q => q) fun ⟨id, o, ha, hb⟩ => ⟨id, o, (by rcases hk.each id with h | h <;> rw [h] at ha <;> first | exact ha | cases ha), hb⟩
    exact ⟨b, o, fun q => hnz (hsub b hlt q), hlt, hv, RelRow.step (WStep.refl (fun _ => False) w) (fun _ _ q => q.elim) hsub es y b o (fun _ _ _ _ q => q) hr⟩
  | ptr id off =>
    simp only [capData] at h
    obtain ⟨rd', _, h⟩ := h
    simp only [RelT] at hx ⊢
    obtain ⟨_, b, o, hb, hv⟩ := hx
    cases ho : objs id with
    | dead => rw [ho] at h; exact h.elim
    | arr _ _ _ => rw [ho] at h; exact h.elim
    | box cells =>
      rw [ho] at h
      obtain ⟨_, _, r, hr, h, _⟩ := Prog.runs_bind _ _ h
      obtain ⟨rfl, _⟩ := h
      have hob := hO.obj id
      rw [ho] at hob
      obtain ⟨b', o', hb', hlt, _, hc⟩ := hob
      rw [hb] at hb'
      cases hb'
      have hnz : ¬ Z' b := fun q => notzz hO hk (by simp) (by rw [ho]; rfl) hb (hz b hlt q)
      refine ⟨b, o, hnz, hlt, hv, ?_⟩
      -- the cells' values
      have hall : ∀ (cs : List TV) (k : Nat), (∀ i t, cs[i]? = some t → ∃ v, w.cell? ⟨b, o + (k + i), none⟩ = some v ∧ RelT w (zz objs β Z) β U t v) → ∃ vs : List Value, RelTs w (zz objs β Z) β U cs vs ∧ ∀ i u, vs[i]? = some u → w.cell? ⟨b, o + (k + i), none⟩ = some u := by
        intro cs
        induction cs with
        | nil => intro k _; exact ⟨[], rfl, fun i u h => by simp at h⟩
        | cons t ts ih =>
          intro k h
          obtain ⟨v, hv, hr⟩ := h 0 t rfl
          obtain ⟨vs, h1, h2⟩ := ih (k + 1) fun i t ht => by
            obtain ⟨v, hv, hr⟩ := h (i + 1) t ht
            exact ⟨v, by rw [← hv]; congr 2; omega, hr⟩
          refine ⟨v :: vs, by simp only [RelTs]; exact ⟨v, vs, rfl, hr, h1⟩, fun i u hu => ?_⟩
          cases i with
          | zero => simp only [List.getElem?_cons_zero, Option.some.injEq] at hu; subst hu; exact hv
          | succ i =>
            simp only [List.getElem?_cons_succ] at hu
            have := h2 i u hu
            rw [← this]; congr 2; omega
      obtain ⟨vs, h1, h2⟩ := hall cells 0 (fun i t ht => by simpa using hc i t ht)
      have hk2 : Killed objs objs' r.2 := ⟨hk.each, fun j hj => hk.gone j (by simp [hj])⟩
      obtain ⟨_, h4⟩ := toLVs_ok hO cells vs _ r h1 hr hk2
      refine mkRow_rel r.1 o fun i l hl => ?_
      obtain ⟨u, hu, hr⟩ := h4 i l hl
      exact ⟨u, by simpa using h2 i u hu, hr.less hz⟩
  | _ => exact h.elim

theorem cellsPre_ok : ∀ (cs : List TV) (i : Nat) (l : LV), (cellsPre cs)[i]? = some l → ∃ t, cs[i]? = some t ∧ ∀ (ZZ : Nat → Prop) (v : Value), RelT w ZZ β U t v → RelL w ZZ l.l l.x v
  | .d l x :: r, 0, m, h => by
    simp only [cellsPre, List.getElem?_cons_zero, Option.some.injEq] at h
    subst h
    exact ⟨_, rfl, fun ZZ v h => by simpa only [RelT] using h⟩
  | .nil :: r, 0, m, h => by
    simp only [cellsPre, List.getElem?_cons_zero, Option.some.injEq] at h
    subst h
    refine ⟨_, rfl, fun ZZ v h => ?_⟩
    simp only [RelT] at h
    simp only [RelL]
    exact ⟨none, 0, h, Nat.le_refl _, fun h => absurd rfl h⟩
  | .d l x :: r, i + 1, m, h => by
    simp only [cellsPre, List.getElem?_cons_succ] at h ⊢
    exact cellsPre_ok r i m h
  | .nil :: r, i + 1, m, h => by
    simp only [cellsPre, List.getElem?_cons_succ] at h ⊢
    exact cellsPre_ok r i m h
  | [], i, m, h => by simp [cellsPre] at h
  | .dead :: r, i, m, h => by simp [cellsPre] at h
  | .agg _ :: r, i, m, h => by simp [cellsPre] at h
  | .tup _ :: r, i, m, h => by simp [cellsPre] at h
  | .ptr _ _ :: r, i, m, h => by simp [cellsPre] at h
  | .eptr _ _ _ _ :: r, i, m, h => by simp [cellsPre] at h
  | .dptr _ _ _ :: r, i, m, h => by simp [cellsPre] at h
  | .arr _ _ _ :: r, i, m, h => by simp [cellsPre] at h
  | .arrF _ _ :: r, i, m, h => by simp [cellsPre] at h
  | .fn _ _ :: r, i, m, h => by simp [cellsPre] at h
  | .raw _ :: r, i, m, h => by simp [cellsPre] at h
theorem zz_killed {objs' : Nat → Obj} {kl : List Nat} (hk : Killed objs objs' kl) (b : Nat) (h : zz objs' β Z b) : zz objs β Z b :=
  h.imp (fun q => q) fun ⟨id, o, ha, hb⟩ => ⟨id, o, (by rcases hk.each id with h | h <;> rw [h] at ha <;> first | exact ha | cases ha), hb⟩

theorem capPre_ok (hO : RelO w Z β U objs) {x : TV} {v : Value} {rd : List Nat} {p : TV × List Nat} (hx : RelT w (zz objs β Z) β U x v) (h : (capPre x).Runs objs rd p) {objs' : Nat → Obj} (hk : Killed objs objs' p.2) : RelT w (zz objs' β Z) β U p.1 v := by
  cases x with
  | d l y =>
    obtain ⟨rfl, _⟩ := h
    exact RelT.step (WStep.refl (fun _ => False) w) (fun _ _ q => q.elim) (fun b _ q => zz_killed hk b q) (fun _ _ => rfl) (fun _ _ q => q) _ _ hx
  | dptr es y j =>
    obtain ⟨rfl, _⟩ := h
    exact RelT.step (WStep.refl (fun _ => False) w) (fun _ _ q => q.elim) (fun b _ q => zz_killed hk b q) (fun _ _ => rfl) (fun _ _ q => q) _ _ hx
  | ptr id off =>
    simp only [capPre] at h
    obtain ⟨rd', _, h⟩ := h
    simp only [RelT] at hx ⊢
    obtain ⟨_, b, o, hb, hv⟩ := hx
    cases ho : objs id with
    | dead => rw [ho] at h; exact h.elim
    | arr _ _ _ => rw [ho] at h; exact h.elim
    | box cells =>
      rw [ho] at h
      obtain ⟨rfl, _⟩ := h
      have hob := hO.obj id
      rw [ho] at hob
      obtain ⟨b', o', hb', hlt, _, hc⟩ := hob
      rw [hb] at hb'
      cases hb'
      refine ⟨b, o, notzz hO hk (by simp) (by rw [ho]; rfl) hb, hlt, hv, mkRow_rel _ o fun i l hl => ?_⟩
      obtain ⟨t, ht, hl2⟩ := cellsPre_ok (w := w) (β := β) (U := U) cells i l hl
      obtain ⟨v, hv, hr⟩ := hc i t ht
      exact ⟨v, hv, (hl2 _ v hr).less fun b hb q => zz_killed hk b q⟩
  | _ => exact h.elim
theorem capsPre_ok (hO : RelO w Z β U objs) : ∀ (xs : List TV) (vs : List Value) (rd : List Nat) (p : List TV × List Nat), RelTs w (zz objs β Z) β U xs vs → (capsPre xs).Runs objs rd p →
    ∀ {objs' : Nat → Obj}, Killed objs objs' p.2 → RelTs w (zz objs' β Z) β U p.1 vs
  | [], vs, rd, p, hx, h, _, _ => by
    obtain ⟨rfl, _⟩ := h
    simp only [RelTs] at hx ⊢
    exact hx
  | x :: xs, vs, rd, p, hx, h, objs', hk => by
    simp only [RelTs] at hx
    obtain ⟨v, vs', rfl, hx, hxs⟩ := hx
    obtain ⟨_, _, a, ha, h, _⟩ := Prog.runs_bind _ _ h
    obtain ⟨_, _, q, hq, h, _⟩ := Prog.runs_bind _ _ h
    obtain ⟨rfl, _⟩ := h
    simp only [RelTs]
    exact ⟨v, vs', rfl, capPre_ok hO hx ha hk.left, capsPre_ok hO xs vs' _ q hxs hq hk.right⟩
theorem closeTs_ok (hO : RelO w Z β U objs) : ∀ (xs : List TV) (vs : List Value) (rd : List Nat) (p : List TV × List Nat), RelTs w (zz objs β Z) β U xs vs → (closeTs xs).Runs objs rd p →
    ∀ {objs' : Nat → Obj}, Killed objs objs' p.2 → RelTs w (zz objs' β Z) β U p.1 vs
  | [], vs, rd, p, hx, h, _, _ => by
    obtain ⟨rfl, _⟩ := h
    simp only [RelTs] at hx ⊢
    exact hx
  | x :: xs, vs, rd, p, hx, h, objs', hk => by
    simp only [RelTs] at hx
    obtain ⟨v, vs', rfl, hx, hxs⟩ := hx
    have plain : (∀ f caps, x ≠ .fn f caps) → ((closeTs xs).bind fun r => .ret (x :: r.1, r.2)).Runs objs rd p → RelTs w (zz objs' β Z) β U p.1 (v :: vs') := fun _ h => by
      obtain ⟨_, _, q, hq, h, _⟩ := Prog.runs_bind _ _ h
      obtain ⟨rfl, _⟩ := h
      simp only [RelTs]
      exact ⟨v, vs', rfl, RelT.step (WStep.refl (fun _ => False) w) (fun _ _ q => q.elim) (fun b _ q => zz_killed hk b q) (fun _ _ => rfl) (fun _ _ q => q) _ _ hx, closeTs_ok hO xs vs' _ q hxs hq hk⟩
    cases x with
    | fn f caps =>
      obtain ⟨_, _, a, ha, h, _⟩ := Prog.runs_bind _ _ h
      obtain ⟨_, _, q, hq, h, _⟩ := Prog.runs_bind _ _ h
      obtain ⟨rfl, _⟩ := h
      simp only [RelT] at hx
      obtain ⟨cv, h1, h2⟩ := hx
      simp only [RelTs, RelT]
      exact ⟨v, vs', rfl, ⟨cv, h1, capsPre_ok hO caps _ _ a h2 ha hk.left⟩, closeTs_ok hO xs vs' _ q hxs hq hk.right⟩
    | _ => exact plain (fun _ _ e => by cases e) h

theorem capsData_ok (hO : RelO w Z β U objs) : ∀ (xs : List TV) (vs : List Value) (rd : List Nat) (p : List TV × List Nat), RelTs w (zz objs β Z) β U xs vs → (capsData xs).Runs objs rd p →
    ∀ {objs' : Nat → Obj}, Killed objs objs' p.2 → ∀ {Z' : Nat → Prop} {β' : Beta} {U' : Nat → Option Nat}, (∀ b, b < w.heap.size → Z' b → zz objs' β Z b) → RelTs w Z' β' U' p.1 vs
  | [], vs, rd, p, hx, h, _, _, _, _, _, _ => by
    obtain ⟨rfl, _⟩ := h
    simp only [RelTs] at hx ⊢
    exact hx
  | x :: xs, vs, rd, p, hx, h, objs', hk, Z', β', U', hz => by
    simp only [RelTs] at hx
    obtain ⟨v, vs', rfl, hx, hxs⟩ := hx
    obtain ⟨_, _, a, ha, h, _⟩ := Prog.runs_bind _ _ h
    obtain ⟨_, _, q, hq, h, _⟩ := Prog.runs_bind _ _ h
    obtain ⟨rfl, _⟩ := h
    simp only [RelTs]
    exact ⟨v, vs', rfl, capData_ok hO hx ha hk.left hz, capsData_ok hO xs vs' _ q hxs hq hk.right hz⟩

theorem dataArg_ok (hO : RelO w Z β U objs) {t : TypeId} {x : TV} {v : Value} {rd : List Nat} {p : TV × List Nat} (hx : RelT w (zz objs β Z) β U x v) (h : (dataArg E t x).Runs objs rd p) {objs' : Nat → Obj} (hk : Killed objs objs' p.2)
    {Z' : Nat → Prop} {β' : Beta} {U' : Nat → Option Nat} (hz : ∀ b, b < w.heap.size → Z' b → zz objs' β Z b) : RelT w Z' β' U' p.1 v := by
  have other : ∀ {y : TV}, y = x → ((ofOpt (E.T t)).bind fun ti => match ti.lv with
    | [l] => (toLeaf l y).bind fun r => Prog.ret (r.1.tv, r.2)
    | _ => .fail).Runs objs rd p → RelT w Z' β' U' p.1 v := by
    intro y hy h2
    subst hy
    obtain ⟨ti, _, h2⟩ := runs_ofOpt h2
    split at h2
    · obtain ⟨_, _, r, hr, h2, _⟩ := Prog.runs_bind _ _ h2
      obtain ⟨rfl, _⟩ := h2
      have := toLeaf_ok hO hx hr hk
      simp only [LV.tv, RelT]
      exact this.less hz
    · exact h2.elim
  cases x with
  | fn f caps =>
    obtain ⟨_, _, r, hr, h, _⟩ := Prog.runs_bind _ _ h
    obtain ⟨rfl, _⟩ := h
    simp only [RelT] at hx ⊢
    obtain ⟨cv, h1, h2⟩ := hx
    exact ⟨cv, h1, capsData_ok hO caps _ _ r h2 hr hk hz⟩
  | agg cs =>
    obtain ⟨ti, _, h⟩ := runs_ofOpt h
    obtain ⟨_, _, r, hr, h, _⟩ := Prog.runs_bind _ _ h
    obtain ⟨rfl, _⟩ := h
    simp only [RelT] at hx ⊢
    obtain ⟨vs, h1, h2⟩ := hx
    obtain ⟨hl, hv⟩ := toLeaves_ok hO h2 hr hk
    refine ⟨vs, h1, relTs_of (by simpa using hl) fun i y u hy hu => ?_⟩
    simp only [List.getElem?_map, Option.map_eq_some_iff] at hy
    obtain ⟨a, ha, rfl⟩ := hy
    obtain ⟨u', hu', hr⟩ := hv i a ha
    rw [hu] at hu'
    cases hu'
    simp only [LV.tv, RelT]
    exact hr.less hz
  | dead => exact other rfl h
  | d l y => exact other rfl h
  | nil => exact other rfl h
  | tup xs => exact other rfl h
  | ptr _ _ => exact other rfl h
  | eptr _ _ _ _ => exact other rfl h
  | dptr _ _ _ => exact other rfl h
  | arr _ _ _ => exact other rfl h
  | arrF _ _ => exact other rfl h
  | raw _ => exact other rfl h

theorem dataArgs_ok (hO : RelO w Z β U objs) : ∀ (ts : List TypeId) (xs : List TV) (vs : List Value) (rd : List Nat) (p : List TV × List Nat), RelTs w (zz objs β Z) β U xs vs → (dataArgs E ts xs).Runs objs rd p →
    ∀ {objs' : Nat → Obj}, Killed objs objs' p.2 → ∀ {Z' : Nat → Prop} {β' : Beta} {U' : Nat → Option Nat}, (∀ b, b < w.heap.size → Z' b → zz objs' β Z b) → RelTs w Z' β' U' p.1 vs
  | [], [], vs, rd, p, hx, h, _, _, _, _, _, _ => by
    obtain ⟨rfl, _⟩ := h
    simp only [RelTs] at hx ⊢
    exact hx
  | t :: ts, x :: xs, vs, rd, p, hx, h, objs', hk, Z', β', U', hz => by
    simp only [RelTs] at hx
    obtain ⟨v, vs', rfl, hx, hxs⟩ := hx
    obtain ⟨_, _, a, ha, h, _⟩ := Prog.runs_bind _ _ h
    obtain ⟨_, _, q, hq, h, _⟩ := Prog.runs_bind _ _ h
    obtain ⟨rfl, _⟩ := h
    simp only [RelTs]
    exact ⟨v, vs', rfl, dataArg_ok hO hx ha hk.left hz, dataArgs_ok hO ts xs vs' _ q hxs hq hk.right hz⟩
  | [], _ :: _, _, _, _, _, h, _, _, _, _, _, _ => h.elim
  | _ :: _, [], _, _, _, _, h, _, _, _, _, _, _ => h.elim

mutual
theorem flat_rel {Z2 : Nat → Prop} {β2 : Beta} {U2 : Nat → Option Nat} : ∀ (x : TV) (v : Value), flatT x = true → RelT w Z β U x v → RelT w Z2 β2 U2 x v
  | .d l x, v, hf, r => by
    simp only [RelT] at r ⊢
    cases l <;> first | (simp only [RelL] at r ⊢; exact r) | (simp [flatT] at hf)
  | .agg xs, v, hf, r => by
    simp only [RelT, flatT] at r hf ⊢
    obtain ⟨vs, h1, h2⟩ := r
    exact ⟨vs, h1, flats_rel xs _ hf h2⟩
  | .tup xs, v, hf, r => by
    simp only [RelT, flatT] at r hf ⊢
    obtain ⟨vs, h1, h2⟩ := r
    exact ⟨vs, h1, flats_rel xs _ hf h2⟩
  | .dead, _, hf, _ => by simp [flatT] at hf
  | .nil, _, hf, _ => by simp [flatT] at hf
  | .ptr _ _, _, hf, _ => by simp [flatT] at hf
  | .eptr _ _ _ _, _, hf, _ => by simp [flatT] at hf
  | .dptr _ _ _, _, hf, _ => by simp [flatT] at hf
  | .arr _ _ _, _, hf, _ => by simp [flatT] at hf
  | .arrF _ _, _, hf, _ => by simp [flatT] at hf
  | .fn _ _, _, hf, _ => by simp [flatT] at hf
  | .raw _, _, hf, _ => by simp [flatT] at hf
theorem flats_rel {Z2 : Nat → Prop} {β2 : Beta} {U2 : Nat → Option Nat} : ∀ (xs : List TV) (vs : List Value), flatTs xs = true → RelTs w Z β U xs vs → RelTs w Z2 β2 U2 xs vs
  | [], _, _, r => by simp only [RelTs] at r ⊢; exact r
  | x :: xs, vs, hf, r => by
    simp only [RelTs, flatTs, Bool.and_eq_true] at r hf ⊢
    obtain ⟨v, vs', h1, h2, h3⟩ := r
    exact ⟨v, vs', h1, flat_rel x v hf.1 h2, flats_rel xs vs' hf.2 h3⟩
end

/-- Nothing that was there has turned. -/
theorem RelO.still (hO : RelO w Z β U objs) (h : WStep (fun _ => False) w w') : RelO w' Z β U objs := by
  refine ⟨fun id => ?_, hO.inj, hO.lim, fun b hb => Nat.lt_of_lt_of_le (hO.zlt b hb) h.size, hO.apart⟩
  cases ha : (objs id).alive with
  | false =>
    cases ho : objs id with
    | dead => trivial
    | _ => rw [ho] at ha; cases ha
  | true => exact RelObj.step h (fun _ _ q => q.elim) (fun _ _ q => q) (fun _ _ => rfl) (fun _ _ q => q) (hO.alive_U ha) (fun _ _ _ q => q) (hO.obj id)

/-! ### 35. A call -/
def CallEnds {R : Type} (w : World) (Z : Nat → Prop) (β : Beta) (U : Nat → Option Nat) (objs : Nat → Obj) (id0 : Nat) (K : List Nat → Eff → Option R) (r : R) (ed : Ending) (w' : World) : Prop :=
  ∃ v rd e β' U', ed = .returned v ∧ K rd e = some r ∧ RelT w' (zz (e.objs objs id0) β' Z) β' U' e.v v ∧ RelO w' Z β' U' (e.objs objs id0) ∧ Fit w β U objs w' β' U' (e.objs objs id0) id0 (id0 + 32)

theorem call_ok {R : Type} {call : Nat → List TV → List Obj → (TV → List Obj → Option R) → Option R} (hcall : CallOK P call) {s : St} (hO : RelO w Z β U s.objs) (hfresh : ∀ id, id0 ≤ id → id < id0 + 32 → U id = none)
    {f : Nat} {args : List TV} {K : List Nat → Eff → Option R} {r : R} {vs : Array Value} (ha : RelTs w (zz s.objs β Z) β U args vs.toList) (h : evCall E call f args s id0 K = some r) :
    Enters P f ∧ Calls P f vs w (CallEnds w Z β U s.objs id0 K r) := by
  unfold evCall at h
  cases hb : E.byHand f with
  | true =>
    rw [hb] at h
    simp only [cond_true] at h
    obtain ⟨rd, l, hg, h⟩ := Prog.runs_of_run _ _ _ _ _ h
    obtain ⟨g1, g2, _⟩ := gather_ok s.objs (fun id => (U id).isSome = true) (fun id hid => use_of hO id hid) 64 _ _ rd l hg (fun id hid => relTs_ids args _ ha id hid) (by simp) (by simp)
    have hl : (l.map fun p => renO (place (l.map (·.1))) p.2) = (l.map (·.1)).map fun id => renO (place (l.map (·.1))) (s.objs id) := by
      rw [List.map_map]
      exact List.map_congr_left fun p hp => by simp [(g1 p hp).1]
    rw [hl] at h
    generalize hm : l.map (·.1) = m at h g2
    have hlen : l.length = m.length := by rw [← hm]; simp
    rw [hlen] at h
    have hu : ∀ id ∈ m, (U id).isSome = true := fun id hid => by
      rw [← hm] at hid
      obtain ⟨p, hp, rfl⟩ := List.mem_map.1 hid
      exact (g1 p hp).2
    obtain ⟨e1, e2, e3⟩ := enter_ok hO g2 hu
    obtain ⟨hent, hc⟩ := hcall _ _ _ _ _ h
    refine ⟨hent, (hc w (Zof Z β s.objs m) (nameB m β) (nameU m U) vs ⟨RelTs.ren (names_place m β U) (fun b _ h => e2 b h) args _ ha, e1, e3⟩).mono fun ed w' ⟨v, rv, robjs, h1, h2, h3⟩ => ?_⟩
    cases hcond : (Nat.ble robjs.length (m.length + 32) && Nat.ble m.length robjs.length) with
    | false => rw [hcond] at h2; cases h2
    | true =>
      rw [hcond] at h2
      simp only [Bool.and_eq_true, Nat.ble_eq] at hcond
      obtain ⟨β', U', h4, h5, h6⟩ := leave_ok hO g2 hu hfresh hcond.2 hcond.1 h3
      exact ⟨v, _, _, β', U', h1, h2, h4, h5, h6⟩
  | false =>
    rw [hb] at h
    simp only [cond_false] at h
    obtain ⟨fn, _, h⟩ := Option.bind_eq_some_iff.1 h
    obtain ⟨rd, p, hd, h⟩ := Prog.runs_of_run _ _ _ _ _ h
    have hk := killed_kill s.objs p.2
    have hOK := hO.kill hk.each
    obtain ⟨e1, e2, e3⟩ := enter_ok (m := []) hOK List.nodup_nil (by simp)
    obtain ⟨hent, hc⟩ := hcall _ _ _ _ _ h
    refine ⟨hent, (hc w (Zof Z β (updO s.objs (kill p.2)) []) (nameB [] β) (nameU [] U) vs ⟨dataArgs_ok hO _ args _ rd p ha hd hk (fun b _ h => e2 b h), e1, e3⟩).mono fun ed w' ⟨v, rv, robjs, h1, h2, h3⟩ => ?_⟩
    have hle : ∀ {q : Option R}, (bif Nat.ble robjs.length 32 then q else none) = some r → robjs.length ≤ 32 ∧ q = some r := fun {q} h => by
      cases hcond : Nat.ble robjs.length 32 with
      | false => rw [hcond] at h; cases h
      | true => rw [hcond] at h; exact ⟨by rwa [Nat.ble_eq] at hcond, h⟩
    cases hcond : (p.2.isEmpty || (flatT rv && robjs.isEmpty && !E.leaks f)) with
    | false =>
      rw [hcond] at h2
      obtain ⟨hlen, h2⟩ := hle h2
      obtain ⟨β', U', h4, h5, h6⟩ := leave_ok (m := []) hOK List.nodup_nil (by simp) hfresh (by simp) (by simpa using hlen) h3
      exact ⟨v, _, _, β', U', h1, h2, h4, h5, (Fit.kill id0 (id0 + 32) hk.each).trans h6⟩
    | true =>
      rw [hcond] at h2
      obtain ⟨hlen, h2⟩ := hle h2
      cases hp : p.2 with
      | nil =>
        have hsame : updO s.objs (kill p.2) = s.objs := by rw [hp]; rfl
        rw [hsame] at h3
        obtain ⟨β', U', h4, h5, h6⟩ := leave_ok (m := []) hO List.nodup_nil (by simp) hfresh (by simp) (by simpa using hlen) h3
        exact ⟨v, _, _, β', U', h1, h2, h4, h5, h6⟩
      | cons q qs =>
        rw [hp] at hcond
        simp only [List.isEmpty_cons, Bool.false_or, Bool.and_eq_true, List.isEmpty_iff] at hcond
        obtain ⟨⟨hflat, hemp⟩, _⟩ := hcond
        subst hemp
        obtain ⟨βr, Ur, hv, _, hF, _⟩ := h3
        have hstep : WStep (fun _ => False) w w' := hF.step.mono fun x _ h => by
          have h : own (objsOf (([] : List Nat).map fun id => renO (place []) (s.objs id))) (nameB [] β) x := h
          obtain ⟨id, o, hm, _, _⟩ := own_part h
          simp at hm
        refine ⟨v, _, back [] id0 rv [], β, U, h1, h2, ?_, hO.still hstep, ⟨hstep.mono (fun _ _ h => h.elim), fun x _ h => h, fun _ _ => rfl, fun _ _ h => h, fun _ h => .inl h⟩⟩
        have hf : RelT w' (zz s.objs β Z) (fun _ => none) (fun _ => none) rv v := flat_rel rv v hflat hv
        exact RelT.ren (mp := outN [] id0) (β := fun _ => none) (U := fun _ => none) (fun id j _ hu => by cases hu) (fun _ _ h => h) rv v hf

/-! ### 36. Any operation -/
/-- No fence; a round's frame, or a function's. -/
def FW (ρ : Option Nat) : Fence := { Fence.wide with round := ρ }
theorem callsIn_FW {ρ : Option Nat} {n : Nat} {P : Program} {f : FuncId} {args : Array Value} {w : World} {R : Ending → World → Prop} : CallsIn (FW ρ) n P f args w R ↔ Calls P f args w R :=
  callsIn_wide (n := n)
theorem semAt_FW (ρ : Option Nat) (v : Operand → Value) (o : Oper) (h : ∀ c, o.op ≠ .defer c) : Oper.semAt ρ v o = execOp v o := by
  cases ρ with
  | none => exact Oper.semAt_none v o
  | some l => exact Oper.semAt_some l v o h
def Goes (P : Program) (o : Oper) (a : Act) (w : World) (Z : Nat → Prop) (β : Beta) (U : Nat → Option Nat) (objs : Nat → Obj) (id0 : Nat) (Kx : Eff → Prop) : Prop :=
  ∀ (next : Act → World → Prop) (Q : Exit → Act → World → Prop), (∀ e v w' β' U', Kx e → RelT w' (zz (e.objs objs id0) β' Z) β' U' e.v v → RelO w' Z β' U' (e.objs objs id0) → Fit w β U objs w' β' U' (e.objs objs id0) id0 (id0 + 32) → next (a.put o.dst v) w') → ∀ ρ n, o.wpIn (FW ρ) n P a w next Q

theorem goes_of_does {o : Oper} {a : Act} {e : Eff} {Kx : Eff → Prop} (h : Does P o a w Z β U objs id0 e) (hK : Kx e) (hnd : ∀ c, o.op ≠ .defer c) : Goes P o a w Z β U objs id0 Kx := by
  intro next Q hn ρ n
  obtain ⟨nx, v, w', β', U', h1, h2, h3, h4, h5⟩ := h
  refine ⟨fun _ _ => trivial, ?_⟩
  have h1' : ((o.semAt (FW ρ).round a.eval).run P w) = .ok nx w' := by rw [semAt_FW (FW ρ).round a.eval o hnd]; exact h1
  rw [h1']
  rcases h2 with rfl | ⟨rfl, rfl⟩
  · exact hn e v w' β' U' hK h3 h4 h5
  · exact hn e undef w' β' U' hK h3 h4 h5

theorem evOp_ok {R : Type} {call : Nat → List TV → List Obj → (TV → List Obj → Option R) → Option R} (hT : TOk P E.T) (hcall : CallOK P call) {s : St} (hO : RelO w Z β U s.objs) (hfresh : ∀ id, id0 ≤ id → id < id0 + 32 → U id = none)
    {a : Act} (hS : ∀ t, RelT w (zz s.objs β Z) β U (s.slots t) (a.tmps.getD t undef)) {o : Oper} {K : List Nat → Eff → Option R} {r : R} (h : evOp E call s id0 o K = some r) :
    Goes P o a w Z β U s.objs id0 fun e => ∃ rd, K rd e = some r := by
  have hid : U id0 = none := hfresh id0 (Nat.le_refl _) (by omega)
  have plain : (evPlain E s id0 o.op).run s.objs [] K = some r → Goes P o a w Z β U s.objs id0 fun e => ∃ rd, K rd e = some r := fun h => by
    obtain ⟨rd, e, h1, h2⟩ := Prog.runs_of_run _ _ _ _ _ h
    exact goes_of_does (plain_ok hT hO hid hS h1) ⟨_, h2⟩ (fun c hc => by rw [hc] at h1; exact h1.elim)
  obtain ⟨dst, op, type, pos, after, guard⟩ := o
  cases op with
  | pick c x y =>
    obtain ⟨t, ht, h⟩ := Option.bind_eq_some_iff.1 h
    have hc := asB_ok (ev_rel hS c) ht
    cases t with
    | true => exact goes_of_does (e := { v := ev s x }) ⟨.value (a.eval x), a.eval x, w, β, U, by simp [execOp, hc, asBool], .inl rfl, ev_rel hS x, hO, Fit.refl _ _ _ _ _ _⟩ ⟨_, h⟩ (fun _ hc => by cases hc)
    | false => exact goes_of_does (e := { v := ev s y }) ⟨.value (a.eval y), a.eval y, w, β, U, by simp [execOp, hc, asBool], .inl rfl, ev_rel hS y, hO, Fit.refl _ _ _ _ _ _⟩ ⟨_, h⟩ (fun _ hc => by cases hc)
  | call c =>
    obtain ⟨callee, args, ts⟩ := c
    cases callee with
    | value f =>
      have h' : (match ev s f with | .fn g caps => evCall E call g (args.toList.map (ev s) ++ caps) s id0 K | _ => none) = some r := h
      cases hf : ev s f with
      | fn g caps =>
        rw [hf] at h'
        have hrf := ev_rel hS f
        rw [hf] at hrf
        simp only [RelT] at hrf
        obtain ⟨cv, hcv, hcaps⟩ := hrf
        have hargs : RelTs w (zz s.objs β Z) β U (args.toList.map (ev s) ++ caps) (args.map a.eval ++ cv).toList := by
          rw [Array.toList_append, Array.toList_map]
          exact relTs_append (evs_rel hS _) hcaps
        obtain ⟨⟨fn, h1, h2, h3⟩, hcalls⟩ := call_ok hcall hO hfresh hargs h'
        intro next Q hn ρ n
        have hrun : (execOp a.eval { dst := dst, op := Op.call { callee := .value f, args := args, argTypes := ts }, type := type, pos := pos, after := after, guard := guard }).run P w = .ok (.enter g (args.map a.eval ++ cv)) w := by
          simp only [execOp, resolve, hcv, Deferred.ofValue, invoke, callFunc]
          simp only [beq_eq_false_iff_ne, ne_eq] at h2
          have h3' : fn.body ≠ none := fun q => by rw [q] at h3; cases h3
          simp [program, Sem.run, h1, h2, h3']
        refine ⟨fun _ _ => trivial, ?_⟩
        rw [semAt_FW (FW ρ).round a.eval _ (fun _ hc => by cases hc), hrun]
        rw [Oper.uponIn_enter]
        refine ⟨fun hc => (by cases hc), (callsIn_FW (ρ := ρ)).2 (Calls.mono hcalls ?_)⟩
        refine fun ed w' ⟨v, rd, e, β', U', q1, q2, q3, q4, q5⟩ => ?_
        subst q1
        exact hn e v w' β' U' ⟨rd, q2⟩ q3 q4 q5
      | _ => rw [hf] at h'; cases h'
    | builtin b => exact plain h
    | invoke r n => exact plain h
  | _ => exact plain h
end
end Go.Te
set_option linter.unusedVariables false
set_option linter.unusedSimpArgs false
namespace Go.Te
open Go.RowKit

/-! ### 37. States -/
structure Mid (ds : List Deferred) (w : World) (a : Act) (Z : Nat → Prop) (β : Beta) (U : Nat → Option Nat) (s : St) (lim : Nat → Prop) : Prop where
  slots : ∀ t, RelT w (zz s.objs β Z) β U (s.slots t) (a.tmps.getD t undef)
  objs : RelO w Z β U s.objs
  size : a.tmps.size = s.nt
  defers : a.defers = ds
  lim : ∀ id, (U id).isSome = true → lim id
  np : ∀ id, id < s.np → (U id).isSome = true

structure Same (s s' : St) : Prop where
  nt : s'.nt = s.nt
  np : s'.np = s.np
  nxt : s'.nxt = s.nxt
theorem Same.refl (s : St) : Same s s := ⟨rfl, rfl, rfl⟩
theorem Same.trans {a b c : St} (h : Same a b) (k : Same b c) : Same a c := ⟨k.nt.trans h.nt, k.np.trans h.np, k.nxt.trans h.nxt⟩
theorem same_put (s : St) (d : Option Nat) (x : TV) : Same s (s.put d x) := by cases d <;> exact ⟨rfl, rfl, rfl⟩
theorem objs_put (s : St) (d : Option Nat) (x : TV) : (s.put d x).objs = s.objs := by cases d <;> rfl
theorem same_eff (s : St) (d : Option Nat) (id0 : Nat) (e : Eff) : Same s (s.eff d id0 e) := by cases d <;> exact ⟨rfl, rfl, rfl⟩
theorem objs_eff (s : St) (d : Option Nat) (id0 : Nat) (e : Eff) : (s.eff d id0 e).objs = e.objs s.objs id0 := by cases d <;> rfl

section
variable {ds : List Deferred} {ρ : Option Nat} {n : Nat} {P : Program} {E : Env} {w w' : World} {Z : Nat → Prop} {β β' : Beta} {U U' : Nat → Option Nat} {s : St} {a : Act} {lim lim' : Nat → Prop}

theorem slots_put {ZZ : Nat → Prop} (hS : ∀ t, RelT w ZZ β U (s.slots t) (a.tmps.getD t undef)) (hsz : a.tmps.size = s.nt) {x : TV} {v : Value} (hx : RelT w ZZ β U x v) (d : Option Nat) :
    ∀ t, RelT w ZZ β U ((s.put d x).slots t) ((a.put d v).tmps.getD t undef) := by
  intro t
  cases d with
  | none => exact hS t
  | some d =>
    simp only [St.put, Act.put, beq_if]
    by_cases h : t = d
    · subst h
      rw [if_pos rfl]
      cases hb : Nat.blt t s.nt with
      | false => trivial
      | true =>
        rw [Nat.blt_eq] at hb
        simp only [cond_true]
        rw [← hsz] at hb
        simpa [Array.getD, hb] using hx
    · rw [if_neg h]
      have : (a.tmps.setIfInBounds d v).getD t undef = a.tmps.getD t undef := by
        simp only [Array.getD_eq_getD_getElem?, Array.getElem?_setIfInBounds]
        rw [if_neg (fun e => h e.symm)]
      rw [this]; exact hS t

theorem slots_refine {ZZ : Nat → Prop} (hS : ∀ t, RelT w ZZ β U (s.slots t) (a.tmps.getD t undef)) {g : Nat} {b : Bool} (hg : a.tmps.getD g undef = .bool b) :
    ∀ t, RelT w ZZ β U ((s.put (some g) (.d .bool b)).slots t) (a.tmps.getD t undef) := by
  intro t
  simp only [St.put, beq_if]
  by_cases h : t = g
  · subst h
    rw [if_pos rfl]
    cases hb : Nat.blt t s.nt with
    | false => trivial
    | true => simp only [cond_true, RelT, RelL]; exact hg
  · rw [if_neg h]; exact hS t

theorem Mid.mono (h : Mid ds w a Z β U s lim) (hl : ∀ id, lim id → lim' id) : Mid ds w a Z β U s lim' := ⟨h.slots, h.objs, h.size, h.defers, fun id hid => hl id (h.lim id hid), h.np⟩
theorem Mid.dead (h : Mid ds w a Z β U s lim) (d : Option Nat) (v : Value) : Mid ds w (a.put d v) Z β U (s.put d .dead) lim := by
  refine ⟨?_, by rw [objs_put]; exact h.objs, ?_, ?_, h.lim, ?_⟩
  · rw [objs_put]; exact slots_put h.slots h.size (x := .dead) trivial d
  · cases d <;> simp [Act.put, St.put, h.size]
  · cases d <;> exact h.defers
  · rw [(same_put s d .dead).np]; exact h.np
theorem Mid.refine (h : Mid ds w a Z β U s lim) {g : Nat} {b : Bool} (hg : a.tmps.getD g undef = .bool b) : Mid ds w a Z β U (s.put (some g) (.d .bool b)) lim :=
  ⟨slots_refine h.slots hg, h.objs, h.size, h.defers, h.lim, h.np⟩
theorem Mid.eff (h : Mid ds w a Z β U s lim) {id0 : Nat} {e : Eff} {v : Value} (hx : RelT w' (zz (e.objs s.objs id0) β' Z) β' U' e.v v) (hO : RelO w' Z β' U' (e.objs s.objs id0)) (hF : Fit w β U s.objs w' β' U' (e.objs s.objs id0) id0 (id0 + 32)) (d : Option Nat) :
    Mid ds w' (a.put d v) Z β' U' (s.eff d id0 e) (fun id => lim id ∨ (id0 ≤ id ∧ id < id0 + 32)) := by
  refine ⟨?_, by rw [objs_eff]; exact hO, ?_, ?_, fun id hid => (hF.lim id hid).imp (h.lim id) (fun q => q), fun id hid => ?_⟩
  · rw [objs_eff]
    have hS2 : ∀ t, RelT w' (zz (e.objs s.objs id0) β' Z) β' U' (({ s with objs := e.objs s.objs id0 } : St).slots t) (a.tmps.getD t undef) := fun t => hF.tv (h.slots t)
    exact slots_put (s := { s with objs := e.objs s.objs id0 }) hS2 h.size hx d
  · rw [(same_eff s d id0 e).nt]
    cases d <;> simp [Act.put, h.size]
  · cases d <;> exact h.defers
  · rw [(same_eff s d id0 e).np] at hid
    exact isSome_of hF.sub (h.np id hid)

theorem yields {ops : Array Oper} {j g : Nat} (hj : (ops[j]?).bind (·.dst) = some g) {b : Bool} (hg : a.tmps.getD g undef = .bool b) : yielded ops a.tmps j = some b := by
  unfold yielded
  rw [hj]
  simp only [Option.bind_some]
  have : a.tmps[g]? = some (.bool b) := by
    cases h : a.tmps[g]? with
    | none => simp only [Array.getD_eq_getD_getElem?, h, Option.getD_none, undef] at hg; cases hg
    | some v => simp only [Array.getD_eq_getD_getElem?, h, Option.getD_some] at hg; rw [hg]
  rw [this]

theorem evOps_ok {R : Type} {call : Nat → List TV → List Obj → (TV → List Obj → Option R) → Option R} (hT : TOk P E.T) (hcall : CallOK P call) (ops : Array Oper) (base : Nat) (Q : Exit → Act → World → Prop) (r : R) :
    ∀ (l : List Oper) (i : Nat) (s : St) (K : St → Option R) (w : World) (a : Act) (β : Beta) (U : Nat → Option Nat), evOps E call ops base i l s K = some r → Mid ds w a Z β U s (fun id => id < base + 32 * i) →
      (∀ s' w' a' β' U', K s' = some r → Mid ds w' a' Z β' U' s' (fun id => id < base + 32 * (i + l.length)) → Far s.np w β U s.objs w' β' U' s'.objs → Same s s' → Q .normal a' w') → wpListIn (FW ρ) n P ops Q l a w
  | [], i, s, K, w, a, β, U, h, hM, hQ => hQ s w a β U h (by simpa using hM) (Far.refl _ _ _ _ _) (Same.refl _)
  | o :: l, i, s, K, w, a, β, U, h, hM, hQ => by
    -- the operation is done
    have go : ∀ (s1 : St), Mid ds w a Z β U s1 (fun id => id < base + 32 * i) → s1.objs = s.objs → Same s s1 → evOp E call s1 (base + 32 * i) o (fun _ e => evOps E call ops base (i + 1) l (s1.eff o.dst (base + 32 * i) e) K) = some r →
        o.wpIn (FW ρ) n P a w (wpListIn (FW ρ) n P ops Q l) Q := by
      intro s1 hM1 hob hsm h1
      refine evOp_ok hT hcall hM1.objs (fun id h1 h2 => ?_) hM1.slots h1 _ _ (fun e v w' β' U' ⟨_, hK⟩ h2 h3 h4 => ?_) ρ n
      · cases hu : U id with
        | none => rfl
        | some l => have := hM1.lim id (by rw [hu]; rfl); omega
      · have hM2 := hM1.eff h2 h3 h4 o.dst
        refine evOps_ok hT hcall ops base Q r l (i + 1) _ K w' _ β' U' hK (hM2.mono fun id hid => by rcases hid with h | h <;> omega) fun s' w2 a2 β2 U2 q1 q2 q3 q4 => ?_
        have hs2 := hsm.trans (same_eff s1 o.dst (base + 32 * i) e)
        refine hQ s' w2 a2 β2 U2 q1 (q2.mono fun id hid => by simp only [List.length_cons]; omega) ?_ (hs2.trans q4)
        rw [hs2.np, objs_eff] at q3
        have hf : Far s.np w β U s1.objs w' β' U' (e.objs s1.objs (base + 32 * i)) := h4.far hM.np
        rw [hob] at hf q3
        exact hf.trans q3
    have skip : ∀ (s1 : St), Mid ds w a Z β U s1 (fun id => id < base + 32 * i) → s1.objs = s.objs → Same s s1 → evOps E call ops base (i + 1) l (s1.put o.dst .dead) K = some r → wpListIn (FW ρ) n P ops Q l (a.put o.dst undef) w := by
      intro s1 hM1 hob hsm h1
      refine evOps_ok hT hcall ops base Q r l (i + 1) _ K w _ β U h1 ((hM1.dead o.dst undef).mono fun id hid => by omega) fun s' w2 a2 β2 U2 q1 q2 q3 q4 => ?_
      have hs2 := hsm.trans (same_put s1 o.dst .dead)
      refine hQ s' w2 a2 β2 U2 q1 (q2.mono fun id hid => by simp only [List.length_cons]; omega) ?_ (hs2.trans q4)
      rw [hs2.np, objs_put, hob] at q3
      exact q3
    unfold wpListIn
    simp only [evOps] at h
    split at h
    · rename_i hg
      rw [if_pos (by simp [Region.wanted, hg])]
      exact go s hM rfl (Same.refl _) h
    · rename_i j want hg
      obtain ⟨g, hj, h⟩ := Option.bind_eq_some_iff.1 h
      obtain ⟨b, hb, h⟩ := Option.bind_eq_some_iff.1 h
      have hgv := asB_ok (hM.slots g) hb
      have hy := yields hj hgv
      have hM1 := hM.refine hgv
      have hw : Region.wanted o (yielded ops a.tmps) = (b == want) := by simp [Region.wanted, hg, hy]
      rw [hw]
      cases b <;> cases want <;> simp only [cond_true, cond_false] at h
      · exact go _ hM1 rfl (same_put _ _ _) h
      · exact ⟨fun _ _ => trivial, skip _ hM1 rfl (same_put _ _ _) h⟩
      · exact ⟨fun _ _ => trivial, skip _ hM1 rfl (same_put _ _ _) h⟩
      · exact go _ hM1 rfl (same_put _ _ _) h
end
end Go.Te
set_option linter.unusedVariables false
set_option linter.unusedSimpArgs false
namespace Go.Te
open Go.RowKit

/-! ### 38. What an operation does hangs on what it looks at alone -/
section
variable {E : Env} {s s' : St} {id0 : Nat}

theorem Prog.run_congr {α R : Type} {objs objs' : Nat → Obj} {K : List Nat → α → Option R} {r : R} : ∀ (p : Prog α) (acc : List Nat), p.run objs acc K = some r → (∀ rd a, p.Runs objs rd a → K (rd.reverse ++ acc) a = some r → ∀ id, id ∈ rd → objs' id = objs id) → p.run objs' acc K = some r
  | .ret a, acc, h, _ => h
  | .fail, acc, h, _ => by simp [Prog.run] at h
  | .look id k, acc, h, hag => by
    obtain ⟨rd, a, h1, h2⟩ := Prog.runs_of_run objs K r (k (objs id)) (id :: acc) h
    have e : objs' id = objs id := hag (id :: rd) a ⟨rd, rfl, h1⟩ (by simpa using h2) id (by simp)
    simp only [Prog.run] at h ⊢
    rw [e]
    exact Prog.run_congr (k (objs id)) (id :: acc) h fun rd a h1 h2 j hj => hag (id :: rd) a ⟨rd, rfl, h1⟩ (by simpa using h2) j (by simp [hj])
  | .guard c k, acc, h, hag => by
    cases c with
    | false => simp [Prog.run] at h
    | true =>
      simp only [Prog.run, cond_true] at h ⊢
      exact Prog.run_congr k acc h fun rd a h1 h2 => hag rd a ⟨rfl, h1⟩ h2
  | .opt A o k, acc, h, hag => by
    cases o with
    | none => simp [Prog.run] at h
    | some x =>
      simp only [Prog.run, Option.bind_some] at h ⊢
      exact Prog.run_congr (k x) acc h fun rd a h1 h2 => hag rd a ⟨x, rfl, h1⟩ h2

theorem Prog.run_det {α R : Type} {objs : Nat → Obj} {K : List Nat → α → Option R} : ∀ (p : Prog α) (acc : List Nat), p.run objs acc K = (p.run objs acc fun rd a => some (rd, a)).bind fun q => K q.1 q.2
  | .ret a, acc => rfl
  | .fail, acc => rfl
  | .look id k, acc => Prog.run_det (k (objs id)) (id :: acc)
  | .guard c k, acc => by cases c <;> simp only [Prog.run, cond_true, cond_false, Option.bind_none]; exact Prog.run_det k acc
  | .opt A o k, acc => by cases o <;> simp only [Prog.run, Option.bind_none, Option.bind_some]; exact Prog.run_det (k _) acc

theorem evPlain_congr (op : Op) (h : ∀ x ∈ (op.operands).toList, ev s' x = ev s x) : evPlain E s' id0 op = evPlain E s id0 op := by
  have lst : ∀ (xs : List Operand), (∀ x ∈ xs, ev s' x = ev s x) → xs.map (ev s') = xs.map (ev s) := fun xs hx => List.map_congr_left hx
  cases op with
  | move x => simp only [evPlain]; rw [h x (by simp [Op.operands])]
  | assign x => simp only [evPlain]; rw [h x (by simp [Op.operands])]
  | box t x => simp only [evPlain]; rw [h x (by simp [Op.operands])]
  | load t x => simp only [evPlain]; rw [h x (by simp [Op.operands])]
  | nilCheck x => simp only [evPlain]; rw [h x (by simp [Op.operands])]
  | unOp op t x => simp only [evPlain]; rw [h x (by simp [Op.operands])]
  | convert a b x => simp only [evPlain]; rw [h x (by simp [Op.operands])]
  | fieldAddr t x f => simp only [evPlain]; rw [h x (by simp [Op.operands])]
  | field t x f => simp only [evPlain]; rw [h x (by simp [Op.operands])]
  | extract x i => simp only [evPlain]; rw [h x (by simp [Op.operands])]
  | store t x y => simp only [evPlain]; rw [h x (by simp [Op.operands]), h y (by simp [Op.operands])]
  | binOp op t x y u => simp only [evPlain]; rw [h x (by simp [Op.operands]), h y (by simp [Op.operands])]
  | makeSlice t x y => simp only [evPlain]; rw [h x (by simp [Op.operands]), h y (by simp [Op.operands])]
  | indexAddr t x y => simp only [evPlain]; rw [h x (by simp [Op.operands]), h y (by simp [Op.operands])]
  | index t x y => simp only [evPlain]; rw [h x (by simp [Op.operands]), h y (by simp [Op.operands])]
  | build t ps =>
    simp only [evPlain]
    have : (ps.toList.map fun p => (p.1, ev s' p.2)) = ps.toList.map fun p => (p.1, ev s p.2) := List.map_congr_left fun p hp => by
      rw [h p.2 (by simp [Op.operands]; exact ⟨p.1, by simpa using hp⟩)]
    rw [this]
  | buildSlice t n ps =>
    simp only [evPlain]
    have : (ps.toList.map fun p => (p.1, ev s' p.2)) = ps.toList.map fun p => (p.1, ev s p.2) := List.map_congr_left fun p hp => by
      rw [h p.2 (by simp [Op.operands]; exact ⟨p.1, by simpa using hp⟩)]
    rw [this]
  | makeFunc fn first caps =>
    simp only [evPlain]
    rw [lst _ fun x hx => h x (by simp only [Op.operands, Array.toList_append, List.mem_append]; exact .inl hx), lst _ fun x hx => h x (by simp only [Op.operands, Array.toList_append, List.mem_append]; exact .inr hx)]
  | slice t x lo hi mx =>
    simp only [evPlain]
    have o : ∀ (y : Option Operand), (∀ z, y = some z → ev s' z = ev s z) → y.map (ev s') = y.map (ev s) := fun y hy => by
      cases y with
      | none => rfl
      | some z => simp [hy z rfl]
    rw [h x (by simp [Op.operands]), o lo fun z hz => h z (by simp [Op.operands, hz]), o hi fun z hz => h z (by simp [Op.operands, hz]), o mx fun z hz => h z (by simp [Op.operands, hz])]
  | call c =>
    obtain ⟨callee, args, ts⟩ := c
    obtain ⟨args⟩ := args
    obtain ⟨ts⟩ := ts
    cases callee with
    | builtin b =>
      have hh : ∀ x ∈ args, ev s' x = ev s x := fun x hx => h x (by simp [Op.operands, Call.operands]; exact hx)
      cases b with
      | len =>
        match args, ts, hh with
        | [x], [t], hh => simp only [evPlain]; rw [hh x (by simp)]
        | [], _, _ => rfl
        | [x], [], _ => rfl
        | [x], _ :: _ :: _, _ => rfl
        | _ :: _ :: _, _, _ => rfl
      | append =>
        match args, ts, hh with
        | [x, y], [t, t'], hh => simp only [evPlain]; rw [hh x (by simp), hh y (by simp)]
        | [], _, _ => rfl
        | [x], _, _ => rfl
        | [x, y], [], _ => rfl
        | [x, y], [_], _ => rfl
        | [x, y], _ :: _ :: _ :: _, _ => rfl
        | _ :: _ :: _ :: _, _, _ => rfl
      | min =>
        match args, hh with
        | [x, y], hh => simp only [evPlain]; rw [hh x (by simp), hh y (by simp)]
        | [], _ => rfl
        | [x], _ => rfl
        | _ :: _ :: _ :: _, _ => rfl
      | max =>
        match args, hh with
        | [x, y], hh => simp only [evPlain]; rw [hh x (by simp), hh y (by simp)]
        | [], _ => rfl
        | [x], _ => rfl
        | _ :: _ :: _ :: _, _ => rfl
      | _ => rfl
    | _ => rfl
  | _ => rfl

variable {call : (R : Type) → Nat → List TV → List Obj → (TV → List Obj → Option R) → Option R}

theorem once_det {R : Type} {f : Nat} {args : List TV} {objs : List Obj} {K : TV → List Obj → Option R} : once call f args objs K = (once call f args objs fun v o => some (v, o)).bind fun q => K q.1 q.2 := by
  unfold once
  cases call (TV × List Obj) f args objs fun v o => some (v, o) <;> rfl

theorem run_bind_K {α A B : Type} {objs : Nat → Obj} {G : List Nat → α → Option A} {K : A → Option B} : ∀ (p : Prog α) (acc : List Nat), (p.run objs acc G).bind K = p.run objs acc fun rd a => (G rd a).bind K
  | .ret a, acc => rfl
  | .fail, acc => rfl
  | .look id k, acc => run_bind_K (k (objs id)) (id :: acc)
  | .guard c k, acc => by cases c <;> simp only [Prog.run, cond_true, cond_false, Option.bind_none]; exact run_bind_K k acc
  | .opt A o k, acc => by cases o <;> simp only [Prog.run, Option.bind_none, Option.bind_some]; exact run_bind_K (k _) acc

theorem bind_bif {A B : Type} {c : Bool} {x y : Option A} {K : A → Option B} : (bif c then x else y).bind K = bif c then x.bind K else y.bind K := by cases c <;> rfl
theorem once_bind {A B : Type} {f : Nat} {args : List TV} {objs : List Obj} {G : TV → List Obj → Option A} {K : A → Option B} : (once call f args objs G).bind K = once call f args objs fun v o => (G v o).bind K := by
  unfold once
  cases call (TV × List Obj) f args objs fun v o => some (v, o) <;> rfl

theorem evCall_det {R : Type} {f : Nat} {args : List TV} {K : List Nat → Eff → Option R} : evCall E (once call) f args s id0 K = (evCall E (once call) f args s id0 fun rd e => some (rd, e)).bind fun q => K q.1 q.2 := by
  unfold evCall
  cases E.byHand f with
  | true =>
    simp only [cond_true, run_bind_K, once_bind, bind_bif, Option.bind_some, Option.bind_none]
  | false =>
    simp only [cond_false]
    cases E.fns f with
    | none => rfl
    | some fn => simp only [Option.bind_some, run_bind_K, once_bind, bind_bif, Option.bind_none]

theorem evOp_det {R : Type} {o : Oper} {K : List Nat → Eff → Option R} : evOp E (once call) s id0 o K = (evOp E (once call) s id0 o fun rd e => some (rd, e)).bind fun q => K q.1 q.2 := by
  obtain ⟨dst, op, type, pos, after, guard⟩ := o
  have plain : ∀ op, (evPlain E s id0 op).run s.objs [] K = ((evPlain E s id0 op).run s.objs [] fun rd e => some (rd, e)).bind fun q => K q.1 q.2 := fun op => Prog.run_det _ _
  cases op with
  | pick c x y =>
    simp only [evOp]
    cases asB (ev s c) with
    | none => rfl
    | some b => cases b <;> rfl
  | call c =>
    obtain ⟨callee, args, ts⟩ := c
    cases callee with
    | value f =>
      simp only [evOp]
      cases ev s f <;> first | rfl | exact evCall_det
    | _ => exact plain _
  | _ => exact plain _

/-- What it did, it does again where what it looks at stands as it stood. -/
theorem evOp_again {ops : Array Oper} {o : Oper} {rd : List Nat} {e : Eff} (h : evOp E (once call) s id0 o (fun rd e => some (rd, e)) = some (rd, e)) (hs : ∀ t ∈ o.looksAt ops, s'.slots t = s.slots t) (ho : ∀ id ∈ rd, s'.objs id = s.objs id) :
    evOp E (once call) s' id0 o (fun rd e => some (rd, e)) = some (rd, e) := by
  have hev : ∀ x ∈ o.op.operands.toList, ev s' x = ev s x := fun x hx => by
    cases x with
    | tmp t =>
      refine hs t ?_
      simp only [Oper.looksAt, List.mem_append, List.mem_filterMap]
      exact .inl ⟨.tmp t, hx, rfl⟩
    | _ => rfl
  obtain ⟨dst, op, type, pos, after, guard⟩ := o
  have plain : ∀ op, (∀ x ∈ op.operands.toList, ev s' x = ev s x) → (evPlain E s id0 op).run s.objs [] (fun rd e => some (rd, e)) = some (rd, e) → (evPlain E s' id0 op).run s'.objs [] (fun rd e => some (rd, e)) = some (rd, e) := by
    intro op hev h
    rw [evPlain_congr op hev]
    refine Prog.run_congr _ _ h fun rd' a _ h2 j hj => ?_
    simp only [Option.some.injEq, Prod.mk.injEq] at h2
    refine ho j ?_
    rw [← h2.1]
    simpa using hj
  cases op with
  | pick c x y =>
    simp only [evOp] at h ⊢
    rw [hev c (by simp [Op.operands]), hev x (by simp [Op.operands]), hev y (by simp [Op.operands])]
    exact h
  | call c =>
    obtain ⟨callee, args, ts⟩ := c
    cases callee with
    | value f =>
      have hargs : args.toList.map (ev s') = args.toList.map (ev s) := List.map_congr_left fun x hx => hev x (by simp only [Op.operands, Call.operands, Array.toList_append, List.mem_append]; exact .inr hx)
      simp only [evOp] at h ⊢
      rw [hev f (by simp [Op.operands, Call.operands]), hargs]
      cases hf : ev s f with
      | fn g caps =>
        rw [hf] at h
        simp only [] at h ⊢
        unfold evCall at h ⊢
        cases hb : E.byHand g with
        | true =>
          rw [hb] at h
          simp only [cond_true] at h ⊢
          refine Prog.run_congr _ _ h fun rd' l _ h2 j hj => ?_
          refine ho j ?_
          obtain ⟨q, _, h3⟩ := Option.bind_eq_some_iff.1 h2
          dsimp only at h3
          cases hc : (Nat.ble q.2.length (l.length + 32) && Nat.ble l.length q.2.length) with
          | false => rw [hc] at h3; cases h3
          | true =>
            rw [hc] at h3
            simp only [cond_true, Option.some.injEq, Prod.mk.injEq] at h3
            rw [← h3.1]
            simpa using hj
        | false =>
          rw [hb] at h
          simp only [cond_false] at h ⊢
          cases hfn : E.fns g with
          | none => rw [hfn] at h; cases h
          | some fn =>
            rw [hfn] at h
            simp only [Option.bind_some] at h ⊢
            refine Prog.run_congr _ _ h fun rd' l _ h2 j hj => ?_
            refine ho j ?_
            obtain ⟨q, _, h3⟩ := Option.bind_eq_some_iff.1 h2
            dsimp only at h3
            have key : ∀ (c : Bool) (c1 c2 : Bool) (e1 e2 : Eff), (bif c then (bif c1 then some (rd'.reverse ++ [], e1) else none) else (bif c2 then some (rd'.reverse ++ [], e2) else none)) = some (rd, e) → rd = rd'.reverse ++ [] := by
              intro c c1 c2 e1 e2 hh
              cases c <;> cases c1 <;> cases c2 <;> simp only [cond_true, cond_false] at hh <;> first | cases hh | skip
              all_goals rfl
            rw [key _ _ _ _ _ h3]
            simpa using hj
      | _ => rw [hf] at h; cases h
    | _ => exact plain _ hev h
  | _ => exact plain _ hev h
end
end Go.Te
set_option linter.unusedVariables false
set_option linter.unusedSimpArgs false
namespace Go.Te
open Go.RowKit

/-! ### 39. Orders that are drawn -/
section
variable {P : Program} {E : Env} {ops : Array Oper} {base : Nat}

/-- What became of the operations of a set. -/
def stD (ops : Array Oper) (base : Nat) (D : Nat → Bool) : Nat → List Note → St → St
  | _, [], s => s
  | i, n :: ns, s => stD ops base D (i + 1) ns (if D i then s.note ((ops[i]?).bind (·.dst)) (base + 32 * i) n else s)

theorem stD_append (D : Nat → Bool) : ∀ (ns ms : List Note) (i : Nat) (s : St), stD ops base D i (ns ++ ms) s = stD ops base D (i + ns.length) ms (stD ops base D i ns s)
  | [], _, _, _ => rfl
  | n :: ns, ms, i, s => by
    simp only [List.cons_append, stD, List.length_cons]
    rw [stD_append D ns ms (i + 1)]
    congr 1; omega
theorem stD_congr {D D' : Nat → Bool} : ∀ (ns : List Note) (i : Nat) (s : St), (∀ k, i ≤ k → k < i + ns.length → D k = D' k) → stD ops base D i ns s = stD ops base D' i ns s
  | [], _, _, _ => rfl
  | n :: ns, i, s, h => by
    simp only [stD]
    rw [h i (Nat.le_refl _) (by simp)]
    exact stD_congr ns (i + 1) _ fun k h1 h2 => h k (by omega) (by simp at h2 ⊢; omega)
theorem same_note (s : St) (d : Option Nat) (id0 : Nat) (n : Note) : Same s (s.note d id0 n) := by
  unfold St.note
  split
  · exact same_eff _ _ _ _
  · exact same_put _ _ _
theorem same_stD (D : Nat → Bool) : ∀ (ns : List Note) (i : Nat) (s : St), Same s (stD ops base D i ns s)
  | [], _, s => Same.refl s
  | n :: ns, i, s => by
    simp only [stD]
    split
    · exact (same_note _ _ _ _).trans (same_stD D ns (i + 1) _)
    · exact same_stD D ns (i + 1) _

def lastOf : List (Nat × Obj) → Nat → Option Obj
  | [], _ => none
  | p :: l, id => match lastOf l id with
    | some o => some o
    | none => if id = p.1 then some p.2 else none
theorem updO_last : ∀ (l : List (Nat × Obj)) (objs : Nat → Obj) (id : Nat), updO objs l id = match lastOf l id with | some o => o | none => objs id
  | [], _, _ => rfl
  | p :: l, objs, id => by
    simp only [updO, lastOf]
    rw [updO_last l]
    cases lastOf l id with
    | some o => rfl
    | none =>
      simp only [beq_if]
      split <;> rfl
theorem lastOf_mem : ∀ (l : List (Nat × Obj)) (id : Nat), (lastOf l id).isSome = true → id ∈ l.map (·.1)
  | [], _, h => by cases h
  | p :: l, id, h => by
    simp only [lastOf] at h
    cases hl : lastOf l id with
    | some o =>
      have := lastOf_mem l id (by rw [hl]; rfl)
      simp only [List.map_cons, List.mem_cons]
      exact .inr this
    | none =>
      rw [hl] at h
      simp only [] at h
      split at h
      · rename_i e; simp [e]
      · cases h

/-- What an effect puts at a name. -/
def effAt (e : Eff) (id0 id : Nat) : Option Obj := if id0 ≤ id ∧ id < id0 + e.news.length then some ((e.news[id - id0]?).getD .dead) else lastOf e.upds id
theorem effAt_ok (e : Eff) (objs : Nat → Obj) (id0 id : Nat) : e.objs objs id0 id = match effAt e id0 id with | some o => o | none => objs id := by
  simp only [Eff.objs, effAt]
  rw [addO_at]
  split
  · rfl
  · exact updO_last _ _ _

def noteAt (n : Note) (id0 id : Nat) : Option Obj := match n.e with
  | some e => effAt e id0 id
  | none => none
def noteV (n : Note) : TV := match n.e with
  | some e => e.v
  | none => .dead
theorem note_objs (s : St) (d : Option Nat) (id0 : Nat) (n : Note) (id : Nat) : (s.note d id0 n).objs id = match noteAt n id0 id with | some o => o | none => s.objs id := by
  cases he : n.e with
  | some e =>
    have h1 : s.note d id0 n = s.eff d id0 e := by simp only [St.note, he]
    have h2 : noteAt n id0 id = effAt e id0 id := by simp only [noteAt, he]
    rw [h1, h2, objs_eff]; exact effAt_ok _ _ _ _
  | none =>
    have h1 : s.note d id0 n = s.put d .dead := by simp only [St.note, he]
    have h2 : noteAt n id0 id = none := by simp only [noteAt, he]
    rw [h1, h2, objs_put]
theorem note_slots (s : St) (d : Option Nat) (id0 : Nat) (n : Note) (t : Nat) : (s.note d id0 n).slots t = if d = some t then (bif Nat.blt t s.nt then noteV n else .dead) else s.slots t := by
  have put : ∀ (s : St) (x : TV), (s.put d x).slots t = if d = some t then (bif Nat.blt t s.nt then x else .dead) else s.slots t := by
    intro s x
    cases d with
    | none => simp [St.put]
    | some d =>
      simp only [St.put, beq_if, Option.some.injEq]
      by_cases h : t = d
      · subst h; simp
      · rw [if_neg h, if_neg (fun e => h e.symm)]
  cases he : n.e with
  | some e =>
    have h1 : s.note d id0 n = ({ s with objs := e.objs s.objs id0 } : St).put d e.v := by simp only [St.note, he, St.eff]
    have h2 : noteV n = e.v := by simp only [noteV, he]
    rw [h1, h2]; exact put _ _
  | none =>
    have h1 : s.note d id0 n = s.put d .dead := by simp only [St.note, he]
    have h2 : noteV n = .dead := by simp only [noteV, he]
    rw [h1, h2]; exact put _ _
theorem noteAt_wr {n : Note} (hf : n.few = true) {id0 id : Nat} (h : (noteAt n id0 id).isSome = true) : id ∈ n.wr ∨ (id0 ≤ id ∧ id < id0 + 32) := by
  unfold noteAt at h
  unfold Note.few at hf
  unfold Note.wr
  cases he : n.e with
  | none => rw [he] at h; cases h
  | some e =>
    rw [he] at h hf
    simp only [effAt, Nat.ble_eq] at h hf ⊢
    split at h
    · exact .inr (by omega)
    · exact .inl (lastOf_mem _ _ h)

/-- One does not touch what the other puts. -/
structure Clear (n m : Note) (x y : Option Nat) (i j : Nat) : Prop where
  dst : ∀ t, x = some t → y ≠ some t
  obj : ∀ id, (noteAt n i id).isSome = true → (noteAt m j id).isSome = true → False

theorem note_comm {n m : Note} {x y : Option Nat} {i j : Nat} (h : Clear n m x y i j) (s : St) : (s.note x i n).note y j m = (s.note y j m).note x i n := by
  have h1 : ((s.note x i n).note y j m).slots = ((s.note y j m).note x i n).slots := by
    funext t
    rw [note_slots, note_slots, note_slots, note_slots, (same_note s x i n).nt, (same_note s y j m).nt]
    by_cases hx : x = some t
    · rw [if_neg (h.dst t hx), if_pos hx, if_pos hx]
    · rw [if_neg hx, if_neg hx]
  have h2 : ((s.note x i n).note y j m).objs = ((s.note y j m).note x i n).objs := by
    funext id
    rw [note_objs, note_objs, note_objs, note_objs]
    cases ha : noteAt n i id with
    | none => rfl
    | some o =>
      cases hb : noteAt m j id with
      | none => rfl
      | some o' => exact (h.obj id (by rw [ha]; rfl) (by rw [hb]; rfl)).elim
  have a := (same_note s x i n).trans (same_note (s.note x i n) y j m)
  have b := (same_note s y j m).trans (same_note (s.note y j m) x i n)
  generalize (s.note x i n).note y j m = p at *
  generalize (s.note y j m).note x i n = q at *
  obtain ⟨p1, p2, p3, p4, p5⟩ := p
  obtain ⟨q1, q2, q3, q4, q5⟩ := q
  simp only at h1 h2
  obtain ⟨a1, a2, a3⟩ := a
  obtain ⟨b1, b2, b3⟩ := b
  simp only at a1 a2 a3 b1 b2 b3
  rw [h1, h2, a1, a2, a3, b1, b2, b3]

/-- The last of all that is done may be done last. -/
theorem stD_late {D : Nat → Bool} {n : Note} {x : Option Nat} {i : Nat} : ∀ (ns : List Note) (k : Nat) (s : St), (∀ j m, ns[j]? = some m → D (k + j) = true → Clear n m x ((ops[k + j]?).bind (·.dst)) i (base + 32 * (k + j))) →
    stD ops base D k ns (s.note x i n) = (stD ops base D k ns s).note x i n
  | [], _, _, _ => rfl
  | m :: ns, k, s, h => by
    simp only [stD]
    have h0 := h 0 m rfl
    have hr := fun j m' (hj : ns[j]? = some m') => h (j + 1) m' (by simpa using hj)
    simp only [Nat.add_zero] at h0
    by_cases hd : D k = true
    · rw [if_pos hd, if_pos hd, note_comm (h0 hd)]
      exact stD_late ns (k + 1) _ fun j m' hj hD => by
        have := hr j m' hj (by rw [show k + (j + 1) = k + 1 + j by omega]; exact hD)
        rwa [show k + (j + 1) = k + 1 + j by omega] at this
    · rw [if_neg hd, if_neg hd]
      exact stD_late ns (k + 1) _ fun j m' hj hD => by
        have := hr j m' hj (by rw [show k + (j + 1) = k + 1 + j by omega]; exact hD)
        rwa [show k + (j + 1) = k + 1 + j by omega] at this

/-- Two sets that are alike in all that touches a slot, or an object. -/
theorem stD_slot {D D' : Nat → Bool} {t : Nat} : ∀ (ns : List Note) (k : Nat) (s s' : St), s.slots t = s'.slots t → s.nt = s'.nt → (∀ j, j < ns.length → (ops[k + j]?).bind (·.dst) = some t → D (k + j) = D' (k + j)) →
    (stD ops base D k ns s).slots t = (stD ops base D' k ns s').slots t
  | [], _, _, _, h, _, _ => h
  | m :: ns, k, s, s', h, hn, hd => by
    simp only [stD]
    refine stD_slot ns (k + 1) _ _ ?_ ?_ fun j hj hx => ?_
    · by_cases hx : (ops[k]?).bind (·.dst) = some t
      · have := hd 0 (by simp) (by simpa using hx)
        simp only [Nat.add_zero] at this
        rw [this]
        by_cases hD : D' k = true
        · rw [if_pos hD, if_pos hD, note_slots, note_slots, if_pos hx, if_pos hx, hn]
        · rw [if_neg hD, if_neg hD]; exact h
      · have e1 : ∀ (c : Bool) (s : St), (if c = true then s.note ((ops[k]?).bind (·.dst)) (base + 32 * k) m else s).slots t = s.slots t := fun c s => by
          split
          · rw [note_slots, if_neg hx]
          · rfl
        rw [e1, e1]; exact h
    · have e2 : ∀ (c : Bool) (s : St), (if c = true then s.note ((ops[k]?).bind (·.dst)) (base + 32 * k) m else s).nt = s.nt := fun c s => by
        split
        · exact (same_note _ _ _ _).nt
        · rfl
      rw [e2, e2]; exact hn
    · have := hd (j + 1) (by simpa using hj) (by rw [show k + (j + 1) = k + 1 + j by omega]; exact hx)
      rwa [show k + (j + 1) = k + 1 + j by omega] at this
theorem stD_obj {D D' : Nat → Bool} {id : Nat} : ∀ (ns : List Note) (k : Nat) (s s' : St), s.objs id = s'.objs id → (∀ j m, ns[j]? = some m → (noteAt m (base + 32 * (k + j)) id).isSome = true → D (k + j) = D' (k + j)) →
    (stD ops base D k ns s).objs id = (stD ops base D' k ns s').objs id
  | [], _, _, _, h, _ => h
  | m :: ns, k, s, s', h, hd => by
    simp only [stD]
    refine stD_obj ns (k + 1) _ _ ?_ fun j m' hj hx => ?_
    · cases hx : noteAt m (base + 32 * k) id with
      | some o =>
        have := hd 0 m rfl (by simp [hx])
        simp only [Nat.add_zero] at this
        rw [this]
        by_cases hD : D' k = true
        · rw [if_pos hD, if_pos hD, note_objs, note_objs, hx]
        · rw [if_neg hD, if_neg hD]; exact h
      | none =>
        have e1 : ∀ (c : Bool) (s : St), (if c = true then s.note ((ops[k]?).bind (·.dst)) (base + 32 * k) m else s).objs id = s.objs id := fun c s => by
          split
          · rw [note_objs, hx]
          · rfl
        rw [e1, e1]; exact h
    · have := hd (j + 1) m' (by simpa using hj) (by rw [show k + (j + 1) = k + 1 + j by omega]; exact hx)
      rwa [show k + (j + 1) = k + 1 + j by omega] at this
end
end Go.Te
set_option linter.unusedVariables false
set_option linter.unusedSimpArgs false
namespace Go.Te
open Go.RowKit

section
variable {P : Program} {E : Env} {call : (R : Type) → Nat → List TV → List Obj → (TV → List Obj → Option R) → Option R} {ops : Array Oper} {base : Nat}

theorem asB_eq {x : TV} {b : Bool} (h : asB x = some b) : x = .d .bool b := by
  cases x with
  | d l y =>
    cases l with
    | bool => cases h; rfl
    | _ => simp [asB] at h
  | _ => simp [asB] at h
theorem put_same {s : St} {g : Nat} {x : TV} (h : s.slots g = x) (hg : g < s.nt) : s.put (some g) x = s := by
  have hb : Nat.blt g s.nt = true := by rw [Nat.blt_eq]; exact hg
  have : (s.put (some g) x).slots = s.slots := by
    funext t
    simp only [St.put, beq_if]
    by_cases e : t = g
    · subst e; rw [if_pos rfl, hb]; exact h.symm
    · rw [if_neg e]
  obtain ⟨s1, s2, s3, s4, s5⟩ := s
  simp only [St.put] at this ⊢
  rw [this]

/-- What is known of one operation, where it stood. -/
structure Fact (E : Env) (call : (R : Type) → Nat → List TV → List Obj → (TV → List Obj → Option R) → Option R) (ops : Array Oper) (base : Nat) (s : St) (i : Nat) (o : Oper) (n : Note) : Prop where
  plain : o.guard = none → ∃ e, n.e = some e
  guard : ∀ j want, o.guard = some (j, want) → ∃ (g : Nat) (b : Bool), (ops[j]?).bind (·.dst) = some g ∧ s.slots g = .d .bool b ∧ (b = want → ∃ e, n.e = some e) ∧ (b ≠ want → n.e = none)
  det : ∀ e, n.e = some e → evOp E (once call) s (base + 32 * i) o (fun rd e => some (rd, e)) = some (n.rd, e)

theorem draw_facts {R : Type} {K : List Note → St → Option R} {r : R} : ∀ (l : List Oper) (i : Nat) (log : List Note) (s : St), (∀ j, l[j]? = ops[i + j]?) → evDraw E (once call) ops base i l log s K = some r →
    ∃ ns : List Note, ns.length = l.length ∧ K (ns.reverse ++ log) (stD ops base (fun _ => true) i ns s) = some r ∧ ∀ j o n, l[j]? = some o → ns[j]? = some n → Fact E call ops base (stD ops base (fun _ => true) i (ns.take j) s) (i + j) o n
  | [], i, log, s, _, h => ⟨[], rfl, h, fun j o n hj => by simp at hj⟩
  | o :: l, i, log, s, hl, h => by
    have hoi : ops[i]? = some o := by simpa using (hl 0).symm
    have hl' : ∀ j, l[j]? = ops[i + 1 + j]? := fun j => by have := hl (j + 1); rw [show i + 1 + j = i + (j + 1) by omega]; simpa using this
    have next : ∀ (n : Note), Fact E call ops base s i o n → evDraw E (once call) ops base (i + 1) l (n :: log) (s.note o.dst (base + 32 * i) n) K = some r →
        ∃ ns : List Note, ns.length = (o :: l).length ∧ K (ns.reverse ++ log) (stD ops base (fun _ => true) i ns s) = some r ∧ ∀ j o' n, (o :: l)[j]? = some o' → ns[j]? = some n → Fact E call ops base (stD ops base (fun _ => true) i (ns.take j) s) (i + j) o' n := by
      intro n hF h
      obtain ⟨ns, h1, h2, h3⟩ := draw_facts l (i + 1) _ _ hl' h
      refine ⟨n :: ns, by simp [h1], ?_, fun j o' n' hj hn => ?_⟩
      · simpa [stD, hoi] using h2
      · cases j with
        | zero =>
          simp only [List.getElem?_cons_zero, Option.some.injEq] at hj hn
          subst hj; subst hn
          exact hF
        | succ j =>
          have := h3 j o' n' (by simpa using hj) (by simpa using hn)
          rw [show i + (j + 1) = i + 1 + j by omega]
          simpa [stD, hoi] using this
    have doit : ∀ {g : Prop}, (o.guard = none ∨ ∃ j want g, o.guard = some (j, want) ∧ (ops[j]?).bind (·.dst) = some g ∧ s.slots g = .d .bool want) → evOp E (once call) s (base + 32 * i) o (fun rd e => evDraw E (once call) ops base (i + 1) l (⟨rd, some e⟩ :: log) (s.eff o.dst (base + 32 * i) e) K) = some r →
        ∃ ns : List Note, ns.length = (o :: l).length ∧ K (ns.reverse ++ log) (stD ops base (fun _ => true) i ns s) = some r ∧ ∀ j o' n, (o :: l)[j]? = some o' → ns[j]? = some n → Fact E call ops base (stD ops base (fun _ => true) i (ns.take j) s) (i + j) o' n := by
      intro _ hg h
      rw [evOp_det] at h
      obtain ⟨⟨rd, e⟩, h1, h2⟩ := Option.bind_eq_some_iff.1 h
      refine next ⟨rd, some e⟩ ⟨fun _ => ⟨e, rfl⟩, fun j want hjw => ?_, fun e' he => by cases he; exact h1⟩ h2
      rcases hg with hg | ⟨j', want', g, hg, hd, hs⟩
      · rw [hg] at hjw; cases hjw
      · rw [hg] at hjw
        cases hjw
        exact ⟨g, want, hd, hs, fun _ => ⟨e, rfl⟩, fun hn => absurd rfl hn⟩
    simp only [evDraw] at h
    split at h
    · rename_i hg
      exact doit (g := True) (.inl hg) h
    · rename_i j want hg
      obtain ⟨g, hj, h⟩ := Option.bind_eq_some_iff.1 h
      obtain ⟨b, hb, h⟩ := Option.bind_eq_some_iff.1 h
      have hs := asB_eq hb
      cases hlt : Nat.blt g s.nt with
      | false => rw [hlt] at h; cases h
      | true =>
        rw [hlt] at h
        rw [Nat.blt_eq] at hlt
        have hsame : ∀ c, b = c → s.put (some g) (.d .bool c) = s := fun c hc => put_same (by rw [hs, hc]) hlt
        have skip : b ≠ want → evDraw E (once call) ops base (i + 1) l (⟨[], none⟩ :: log) (s.put o.dst .dead) K = some r → ∃ ns : List Note, ns.length = (o :: l).length ∧ K (ns.reverse ++ log) (stD ops base (fun _ => true) i ns s) = some r ∧
            ∀ j o' n, (o :: l)[j]? = some o' → ns[j]? = some n → Fact E call ops base (stD ops base (fun _ => true) i (ns.take j) s) (i + j) o' n := by
          intro hne h
          refine next ⟨[], none⟩ ⟨fun hn => ?_, fun j' want' hjw => ?_, fun e he => ?_⟩ h
          · rw [hg] at hn; cases hn
          · rw [hg] at hjw
            cases hjw
            exact ⟨g, b, hj, hs, fun he => absurd he hne, fun _ => rfl⟩
          · cases he
        cases b <;> cases want <;> simp only [cond_true, cond_false] at h
        · rw [hsame false rfl] at h; exact doit (g := True) (.inr ⟨j, false, g, hg, hj, hs⟩) h
        · rw [hsame false rfl] at h; exact skip (by simp) h
        · rw [hsame true rfl] at h; exact skip (by simp) h
        · rw [hsame true rfl] at h; exact doit (g := True) (.inr ⟨j, true, g, hg, hj, hs⟩) h

/-! What the check says. -/
def ahead (ops : Array Oper) (i : Nat) : List Nat := ((aheadTbl ops.toList [])[i]?).getD []

structure Order (ops : Array Oper) (base : Nat) (ns : List Note) : Prop where
  back : ∀ i o, ops[i]? = some o → ∀ j ∈ edges o, j < i
  step : ∀ i o, ops[i]? = some o → ∀ k ∈ ahead ops i, ∃ j ∈ edges o, k = j ∨ k ∈ ahead ops j
  pair : ∀ i j, j < i → i < ops.size → j ∈ ahead ops i ∨ ∃ x y n m, ops[j]? = some x ∧ ops[i]? = some y ∧ ns[j]? = some n ∧ ns[i]? = some m ∧ apartOps ops base j i x y n m = true
  few : ∀ n ∈ ns, n.few = true

theorem order_of {ns : List Note} (h : drawOk ops base ns = true) : Order ops base ns := by
  simp only [drawOk, Bool.and_eq_true] at h
  obtain ⟨h1, h2⟩ := h
  simp only [tblOk, List.all_eq_true, List.mem_range] at h1
  simp only [pairsOk, Bool.and_eq_true, List.all_eq_true, List.mem_range] at h2
  have at1 : ∀ i o, ops[i]? = some o → (∀ j ∈ edges o, j < i) ∧ ∀ k ∈ ahead ops i, ∃ j ∈ edges o, k = j ∨ k ∈ ahead ops j := by
    intro i o ho
    have hi : i < ops.size := (Array.getElem?_eq_some_iff.1 ho).1
    have := h1 i hi
    rw [ho] at this
    simp only [Bool.and_eq_true, List.all_eq_true, List.any_eq_true, Bool.or_eq_true, beq_iff_eq, List.contains_eq_mem, decide_eq_true_eq] at this
    exact ⟨fun j hj => by have := this.1 j hj; rwa [Nat.blt_eq] at this, this.2⟩
  refine ⟨fun i o ho => (at1 i o ho).1, fun i o ho => (at1 i o ho).2, fun i j hj hi => ?_, fun n hn => h2.1 n hn⟩
  have := h2.2 i hi j hj
  simp only [Bool.or_eq_true, List.contains_eq_mem, decide_eq_true_eq] at this
  rcases this with h | h
  · exact .inl h
  · right
    split at h
    · rename_i x y n m hx hy hn hm
      exact ⟨x, y, n, m, hx, hy, hn, hm, h⟩
    · cases h

/-- With each, all that comes ahead of it. -/
def Closed (ops : Array Oper) (D : Nat → Bool) : Prop := ∀ k o, ops[k]? = some o → D k = true → ∀ j ∈ edges o, D j = true

theorem ahead_in {ns : List Note} (hO : Order ops base ns) {D : Nat → Bool} (hD : Closed ops D) : ∀ (i : Nat) (o : Oper), ops[i]? = some o → (∀ j ∈ edges o, D j = true) → ∀ k ∈ ahead ops i, D k = true := by
  intro i
  induction i using Nat.strongRecOn with
  | _ i ih =>
    intro o ho he k hk
    obtain ⟨j, hj, h⟩ := hO.step i o ho k hk
    rcases h with rfl | h
    · exact he k hj
    · have hlt := hO.back i o ho j hj
      have hi : i < ops.size := (Array.getElem?_eq_some_iff.1 ho).1
      have hoj : ops[j]? = some ops[j] := Array.getElem?_eq_getElem (by omega)
      exact ih j hlt _ hoj (hD j _ hoj (he j hj)) k h

theorem apart_facts {j i : Nat} {x y : Oper} {n m : Note} (h : apartOps ops base j i x y n m = true) (hn : n.few = true) (hm : m.few = true) (hji : j < i) :
    Clear n m x.dst y.dst (base + 32 * j) (base + 32 * i) ∧ (∀ t ∈ y.looksAt ops, x.dst ≠ some t) ∧ (∀ t ∈ x.looksAt ops, y.dst ≠ some t) ∧ (∀ id ∈ m.rd, noteAt n (base + 32 * j) id = none) ∧ (∀ id ∈ n.rd, noteAt m (base + 32 * i) id = none) := by
  simp only [apartOps, Bool.and_eq_true, Bool.not_eq_true', meets, meetsNew, List.any_eq_false] at h
  obtain ⟨⟨⟨⟨⟨h1, h2⟩, h3⟩, h4⟩, h5⟩, h6⟩ := h
  obtain ⟨a1, a2, a3⟩ := Oper.apart_spec h1
  simp only [List.contains_eq_mem, decide_eq_true_eq] at h2 h3 h4
  have g5 : ∀ id, id ∈ m.rd ++ m.wr → ¬ (base + 32 * j ≤ id ∧ id < base + 32 * j + 32) := fun id hid hc => h5 id hid (by
    simp only [Bool.and_eq_true, Nat.ble_eq, Nat.blt_eq]; exact hc)
  have g6 : ∀ id, id ∈ n.rd ++ n.wr → ¬ (base + 32 * i ≤ id ∧ id < base + 32 * i + 32) := fun id hid hc => h6 id hid (by
    simp only [Bool.and_eq_true, Nat.ble_eq, Nat.blt_eq]; exact hc)
  have none_of : ∀ {o : Option Obj}, ¬ (o.isSome = true) → o = none := fun {o} h => by cases o; rfl; exact absurd rfl h
  refine ⟨⟨a2, fun id p q => ?_⟩, fun t ht e => a1 t e ht, fun t ht e => a3 t e ht, fun id hid => none_of fun q => ?_, fun id hid => none_of fun q => ?_⟩
  · rcases noteAt_wr hn p with p | p <;> rcases noteAt_wr hm q with q | q
    · exact h3 id p q
    · exact g6 id (by simp [p]) q
    · exact g5 id (by simp [q]) p
    · omega
  · rcases noteAt_wr hn q with q | q
    · exact h2 id q hid
    · exact g5 id (by simp [hid]) q
  · rcases noteAt_wr hm q with q | q
    · exact h4 id q hid
    · exact g6 id (by simp [hid]) q

theorem Clear.symm {n m : Note} {x y : Option Nat} {i j : Nat} (h : Clear n m x y i j) : Clear m n y x j i := ⟨fun t hy hx => h.dst t hx hy, fun id a b => h.obj id b a⟩

def cnt (D : Nat → Bool) : Nat → Nat
  | 0 => 0
  | n + 1 => cnt D n + (if D n then 0 else 1)
theorem cnt_zero {D : Nat → Bool} : ∀ {n : Nat}, cnt D n = 0 → ∀ k, k < n → D k = true
  | 0, _, k, hk => by omega
  | n + 1, h, k, hk => by
    simp only [cnt] at h
    have h1 : cnt D n = 0 := by omega
    by_cases e : k = n
    · subst e
      cases hd : D k with
      | true => rfl
      | false => rw [hd] at h; simp at h
    · exact cnt_zero h1 k (by omega)
theorem cnt_congr {D D' : Nat → Bool} : ∀ {n : Nat}, (∀ k, k < n → D k = D' k) → cnt D n = cnt D' n
  | 0, _ => rfl
  | n + 1, h => by simp only [cnt]; rw [cnt_congr fun k hk => h k (by omega), h n (by omega)]
theorem cnt_add {D D' : Nat → Bool} {i : Nat} (hi : D i = false) (hi' : D' i = true) (hd : ∀ k, k ≠ i → D' k = D k) : ∀ {n : Nat}, i < n → cnt D' n + 1 = cnt D n
  | 0, h => by omega
  | n + 1, h => by
    simp only [cnt]
    by_cases e : i = n
    · subst e
      rw [hi, hi', cnt_congr (D := D') (D' := D) fun k hk => hd k (by omega)]
      simp
    · rw [hd n (fun q => e q.symm)]
      have := cnt_add hi hi' hd (n := n) (by omega)
      omega
end
end Go.Te
set_option linter.unusedVariables false
set_option linter.unusedSimpArgs false
namespace Go.Te
open Go.RowKit

section
variable {P : Program} {E : Env} {call : (R : Type) → Nat → List TV → List Obj → (TV → List Obj → Option R) → Option R} {ops : Array Oper} {base : Nat} {Z : Nat → Prop}

theorem stD_prefix (ns : List Note) (i : Nat) (s : St) : stD ops base (fun k => decide (k < i)) 0 ns s = stD ops base (fun _ => true) 0 (ns.take i) s := by
  conv => lhs; rw [← List.take_append_drop i ns]
  rw [stD_append]
  have h1 : stD ops base (fun k => decide (k < i)) 0 (ns.take i) s = stD ops base (fun _ => true) 0 (ns.take i) s := stD_congr _ _ _ fun k _ hk => by
    simp at hk ⊢; omega
  rw [h1]
  have none_ : ∀ (ms : List Note) (k : Nat) (s : St), i ≤ k → stD ops base (fun k => decide (k < i)) k ms s = s := by
    intro ms
    induction ms with
    | nil => intros; rfl
    | cons m ms ih =>
      intro k s hk
      simp only [stD]
      rw [if_neg (by simp; omega)]
      exact ih (k + 1) s (by omega)
  by_cases hi : i ≤ ns.length
  · exact none_ _ _ _ (by simp; omega)
  · rw [List.drop_eq_nil_of_le (by omega)]; rfl

/-- One more is done. -/
theorem stD_more {D D' : Nat → Bool} {i : Nat} {ns : List Note} {n : Note} (hn : ns[i]? = some n) (hi : D i = false) (hi' : D' i = true) (hd : ∀ k, k ≠ i → D' k = D k)
    (hc : ∀ k m, i < k → ns[k]? = some m → D k = true → Clear n m ((ops[i]?).bind (·.dst)) ((ops[k]?).bind (·.dst)) (base + 32 * i) (base + 32 * k)) (s : St) :
    stD ops base D' 0 ns s = (stD ops base D 0 ns s).note ((ops[i]?).bind (·.dst)) (base + 32 * i) n := by
  obtain ⟨hlt, hv⟩ := List.getElem?_eq_some_iff.1 hn
  have hsplit : ns = ns.take i ++ n :: ns.drop (i + 1) := by
    rw [← hv]
    simp
  have hlen : (ns.take i).length = i := by simp; omega
  have e1 : stD ops base D' 0 (ns.take i) s = stD ops base D 0 (ns.take i) s := stD_congr _ _ _ fun k _ hk => hd k (by rw [hlen] at hk; omega)
  conv => lhs; rw [hsplit]
  conv => rhs; rw [hsplit]
  rw [stD_append, stD_append, hlen, Nat.zero_add, e1]
  simp only [stD, hi, hi', if_true, Bool.false_eq_true, if_false]
  have e2 : ∀ s, stD ops base D' (i + 1) (ns.drop (i + 1)) s = stD ops base D (i + 1) (ns.drop (i + 1)) s := fun s => stD_congr _ _ _ fun k hk _ => hd k (by omega)
  rw [e2]
  exact stD_late _ _ _ fun j m hj hD => hc (i + 1 + j) m (by omega) (by rw [List.getElem?_drop] at hj; exact hj) hD

theorem draw_ok {ds : List Deferred} {ρ : Option Nat} {nf : Nat} {R : Type} (hT : TOk P E.T) (hcall : ∀ R, CallOK P (call R)) {K0 : List Note → St → Option R} {Kf : St → Option R} {r : R} {s : St} {w : World} {a : Act} {β : Beta} {U : Nat → Option Nat} {Q : Exit → Act → World → Prop}
    (h : evDraw E (once call) ops base 0 ops.toList [] s K0 = some r) (hK0 : ∀ log s', K0 log s' = some r → drawOk ops base log.reverse = true ∧ Kf s' = some r) (hM : Mid ds w a Z β U s (fun id => id < base))
    (hQ : ∀ s' w' a' β' U', Kf s' = some r → Mid ds w' a' Z β' U' s' (fun id => id < base + 32 * ops.size) → Far s.np w β U s.objs w' β' U' s'.objs → Same s s' → Q .normal a' w') :
    wpAnyIn (FW ρ) nf P .any ops Q ops.size (Array.replicate ops.size false) a w := by
  obtain ⟨ns, hlen, hK, hF⟩ := draw_facts ops.toList 0 [] s (fun j => by simp) h
  obtain ⟨hchk, hKf⟩ := hK0 _ _ hK
  have hns : ns.length = ops.size := by simpa using hlen
  have hO : Order ops base ns := order_of (by simpa using hchk)
  have hfew : ∀ (i : Nat) (n : Note), ns[i]? = some n → n.few = true := fun i n hn => hO.few n (List.mem_of_getElem? hn)
  -- two of which neither comes ahead
  have pairs : ∀ j i, j < i → i < ops.size → j ∉ ahead ops i → ∀ n m, ns[j]? = some n → ns[i]? = some m → ∀ x y, ops[j]? = some x → ops[i]? = some y →
      Clear n m x.dst y.dst (base + 32 * j) (base + 32 * i) ∧ (∀ t ∈ y.looksAt ops, x.dst ≠ some t) ∧ (∀ t ∈ x.looksAt ops, y.dst ≠ some t) ∧ (∀ id ∈ m.rd, noteAt n (base + 32 * j) id = none) ∧ (∀ id ∈ n.rd, noteAt m (base + 32 * i) id = none) := by
    intro j i hji hi hna n m hn hm x y hx hy
    rcases hO.pair i j hji hi with h | ⟨x', y', n', m', hx', hy', hn', hm', hap⟩
    · exact absurd h hna
    · rw [hx] at hx'; rw [hy] at hy'; rw [hn] at hn'; rw [hm] at hm'
      cases hx'; cases hy'; cases hn'; cases hm'
      exact apart_facts hap (hfew _ _ hn) (hfew _ _ hm) hji
  have main : ∀ (fuel : Nat) (L : Array Bool) (w1 : World) (a1 : Act) (β1 : Beta) (U1 : Nat → Option Nat), L.size = ops.size → cnt (fun k => L.getD k false) ops.size = fuel → Closed ops (fun k => L.getD k false) →
      Mid ds w1 a1 Z β1 U1 (stD ops base (fun k => L.getD k false) 0 ns s) (fun id => id < base ∨ ∃ k, k < ops.size ∧ L.getD k false = true ∧ base + 32 * k ≤ id ∧ id < base + 32 * k + 32) →
      Far s.np w β U s.objs w1 β1 U1 (stD ops base (fun k => L.getD k false) 0 ns s).objs → wpAnyIn (FW ρ) nf P .any ops Q fuel L a1 w1 := by
    have fin : ∀ (L : Array Bool) (w1 : World) (a1 : Act) (β1 : Beta) (U1 : Nat → Option Nat), (∀ k, k < ops.size → L.getD k false = true) →
        Mid ds w1 a1 Z β1 U1 (stD ops base (fun k => L.getD k false) 0 ns s) (fun id => id < base ∨ ∃ k, k < ops.size ∧ L.getD k false = true ∧ base + 32 * k ≤ id ∧ id < base + 32 * k + 32) →
        Far s.np w β U s.objs w1 β1 U1 (stD ops base (fun k => L.getD k false) 0 ns s).objs → Q .normal a1 w1 := by
      intro L w1 a1 β1 U1 hall hM1 hF1
      have e : stD ops base (fun k => L.getD k false) 0 ns s = stD ops base (fun _ => true) 0 ns s := stD_congr _ _ _ fun k _ hk => hall k (by omega)
      rw [e] at hM1 hF1
      exact hQ _ w1 a1 β1 U1 hKf (hM1.mono fun id hid => by rcases hid with h | ⟨k, hk, _, _, h⟩ <;> omega) hF1 (same_stD _ _ _ _)
    have ready_iff : ∀ (L : Array Bool) (i : Nat), L.size = ops.size → (i ∈ Region.ready .any ops L ↔ i < ops.size ∧ L.getD i false = false ∧ ∃ o, ops[i]? = some o ∧ ∀ j ∈ edges o, L.getD j false = true) := by
      intro L i hL
      simp only [Region.ready, List.mem_filter, List.mem_range, Bool.and_eq_true, Bool.not_eq_true']
      constructor
      · rintro ⟨hi, h1, h2⟩
        have ho : ops[i]? = some ops[i] := Array.getElem?_eq_getElem hi
        rw [ho] at h2
        simp only [Option.map_some, Option.getD_some] at h2
        refine ⟨hi, ?_, _, ho, fun j hj => ?_⟩
        · have : L[i]? = some L[i] := Array.getElem?_eq_getElem (by omega)
          simp only [Array.getD_eq_getD_getElem?, this, Option.getD_some] at h1 ⊢
          exact h1
        · simp only [edges, List.mem_map, List.mem_filter] at hj
          obtain ⟨ed, ⟨hm, hb⟩, rfl⟩ := hj
          rw [Array.all_eq_true'] at h2
          have := h2 ed (by simpa using hm)
          simpa [hb] using this
      · rintro ⟨hi, h1, o, ho, h2⟩
        refine ⟨hi, ?_, ?_⟩
        · have : L[i]? = some L[i] := Array.getElem?_eq_getElem (by omega)
          simp only [Array.getD_eq_getD_getElem?, this, Option.getD_some] at h1 ⊢
          exact h1
        · rw [ho]
          simp only [Option.map_some, Option.getD_some]
          rw [Array.all_eq_true']
          intro ed hm
          cases hb : Region.binds .any ed with
          | false => simp
          | true =>
            simp only [Bool.not_true, Bool.false_or]
            exact h2 ed.on (by simp only [edges, List.mem_map, List.mem_filter]; exact ⟨ed, ⟨by simpa using hm, hb⟩, rfl⟩)
    have all_of : ∀ (L : Array Bool), L.size = ops.size → Region.ready .any ops L = [] → ∀ k, k < ops.size → L.getD k false = true := by
      intro L hL hnil k
      induction k using Nat.strongRecOn with
      | _ k ih =>
        intro hk
        cases hd : L.getD k false with
        | true => rfl
        | false =>
          have ho : ops[k]? = some ops[k] := Array.getElem?_eq_getElem hk
          have : k ∈ Region.ready .any ops L := (ready_iff L k hL).2 ⟨hk, hd, _, ho, fun j hj => ih j (hO.back k _ ho j hj) (by have := hO.back k _ ho j hj; omega)⟩
          rw [hnil] at this
          cases this
    intro fuel
    induction fuel with
    | zero =>
      intro L w1 a1 β1 U1 hL hc hcl hM1 hF1
      have hall := cnt_zero hc
      refine ⟨?_, fin L w1 a1 β1 U1 hall hM1 hF1⟩
      cases hr : Region.ready .any ops L with
      | nil => rfl
      | cons i rest =>
        have : i ∈ Region.ready .any ops L := by rw [hr]; simp
        obtain ⟨hi, hd, _⟩ := (ready_iff L i hL).1 this
        rw [hall i hi] at hd
        cases hd
    | succ fuel ih =>
      intro L w1 a1 β1 U1 hL hc hcl hM1 hF1
      refine ⟨fun hnil => fin L w1 a1 β1 U1 (all_of L hL hnil) hM1 hF1, fun i hri => ?_⟩
      obtain ⟨hi, hd, o, ho, hed⟩ := (ready_iff L i hL).1 hri
      have hni : ns[i]? = some ns[i] := List.getElem?_eq_getElem (by omega)
      generalize ns[i] = n at hni
      have haheadi := ahead_in hO hcl i o ho hed
      -- who stands on which side
      have side1 : ∀ k, k < i → L.getD k false = false → k ∉ ahead ops i := fun k _ hk hm => by rw [haheadi k hm] at hk; cases hk
      have side2 : ∀ k, i < k → k < ops.size → L.getD k false = true → i ∉ ahead ops k := fun k hik hk hdk hm => by
        have hok : ops[k]? = some ops[k] := Array.getElem?_eq_getElem hk
        have := ahead_in hO hcl k _ hok (hcl k _ hok hdk) i hm
        rw [hd] at this; cases this
      -- what it looks at stands as it stood
      have hslots : ∀ t ∈ o.looksAt ops, (stD ops base (fun k => L.getD k false) 0 ns s).slots t = (stD ops base (fun _ => true) 0 (ns.take i) s).slots t := by
        intro t ht
        rw [← stD_prefix]
        refine stD_slot ns 0 s s rfl rfl fun k hk hx => ?_
        rw [Nat.zero_add] at hx ⊢
        have hks : k < ops.size := by omega
        have hok : ops[k]? = some ops[k] := Array.getElem?_eq_getElem hks
        have hnk : ns[k]? = some ns[k] := List.getElem?_eq_getElem hk
        rw [hok] at hx
        rcases Nat.lt_trichotomy k i with hlt | heq | hgt
        · cases hdk : L.getD k false with
          | true => simp [hlt]
          | false => exact absurd hx ((pairs k i hlt hi (side1 k hlt hdk) _ _ hnk hni _ _ hok ho).2.1 t ht)
        · subst heq; rw [hd]; simp
        · cases hdk : L.getD k false with
          | false => simp; omega
          | true => exact absurd hx ((pairs i k hgt hks (side2 k hgt hks hdk) _ _ hni hnk _ _ ho hok).2.2.1 t ht)
      have hobjs : ∀ id ∈ n.rd, (stD ops base (fun k => L.getD k false) 0 ns s).objs id = (stD ops base (fun _ => true) 0 (ns.take i) s).objs id := by
        intro id hid
        rw [← stD_prefix]
        refine stD_obj ns 0 s s rfl fun k m hm hx => ?_
        rw [Nat.zero_add] at hx ⊢
        have hks : k < ops.size := by have := (List.getElem?_eq_some_iff.1 hm).1; omega
        have hok : ops[k]? = some ops[k] := Array.getElem?_eq_getElem hks
        rcases Nat.lt_trichotomy k i with hlt | heq | hgt
        · cases hdk : L.getD k false with
          | true => simp [hlt]
          | false =>
            have := (pairs k i hlt hi (side1 k hlt hdk) _ _ hm hni _ _ hok ho).2.2.2.1 id hid
            rw [this] at hx; cases hx
        · subst heq; rw [hd]; simp
        · cases hdk : L.getD k false with
          | false => simp; omega
          | true =>
            have := (pairs i k hgt hks (side2 k hgt hks hdk) _ _ hni hm _ _ ho hok).2.2.2.2 id hid
            rw [this] at hx; cases hx
      have hFi : Fact E call ops base (stD ops base (fun _ => true) 0 (ns.take i) s) (0 + i) o n := hF i o n (by simpa using ho) hni
      rw [Nat.zero_add] at hFi
      -- the next set
      have hLi : i < L.size := by omega
      have hset : ∀ k, (L.setIfInBounds i true).getD k false = if k = i then true else L.getD k false := fun k => by
        simp only [Array.getD_eq_getD_getElem?, Array.getElem?_setIfInBounds]
        by_cases e : k = i
        · subst e; simp [hLi]
        · rw [if_neg (fun q => e q.symm), if_neg e]
      have hsi : (L.setIfInBounds i true).getD i false = true := by rw [hset, if_pos rfl]
      have hso : ∀ k, k ≠ i → (L.setIfInBounds i true).getD k false = L.getD k false := fun k hk => by rw [hset, if_neg hk]
      have hcnt : cnt (fun k => (L.setIfInBounds i true).getD k false) ops.size = fuel := by
        have := cnt_add (D := fun k => L.getD k false) (D' := fun k => (L.setIfInBounds i true).getD k false) hd hsi hso hi
        omega
      have hcl' : Closed ops (fun k => (L.setIfInBounds i true).getD k false) := fun k o' hk hdk j hj => by
        show (L.setIfInBounds i true).getD j false = true
        rw [hset]
        split
        · rfl
        · by_cases e : k = i
          · subst e
            rw [ho] at hk
            cases hk
            exact hed j hj
          · have hdk : (L.setIfInBounds i true).getD k false = true := hdk
            rw [hso k e] at hdk
            exact hcl k o' hk hdk j hj
      have hmore : stD ops base (fun k => (L.setIfInBounds i true).getD k false) 0 ns s = (stD ops base (fun k => L.getD k false) 0 ns s).note o.dst (base + 32 * i) n := by
        have := stD_more (ops := ops) (base := base) (D := fun k => L.getD k false) (D' := fun k => (L.setIfInBounds i true).getD k false) hni hd hsi hso (fun k m hik hm hdk => by
          have hks : k < ops.size := by have := (List.getElem?_eq_some_iff.1 hm).1; omega
          have hok : ops[k]? = some ops[k] := Array.getElem?_eq_getElem hks
          have := (pairs i k hik hks (side2 k hik hks hdk) _ _ hni hm _ _ ho hok).1
          rw [ho, hok]
          exact this) s
        rw [ho] at this
        exact this
      have hsame := same_stD (ops := ops) (base := base) (fun k => L.getD k false) ns 0 s
      have more_lim : ∀ id, ((id < base ∨ ∃ k, k < ops.size ∧ L.getD k false = true ∧ base + 32 * k ≤ id ∧ id < base + 32 * k + 32) ∨ (base + 32 * i ≤ id ∧ id < base + 32 * i + 32)) →
          (id < base ∨ ∃ k, k < ops.size ∧ (L.setIfInBounds i true).getD k false = true ∧ base + 32 * k ≤ id ∧ id < base + 32 * k + 32) := fun id hid => by
        rcases hid with (h | ⟨k, h1, h2, h3⟩) | h
        · exact .inl h
        · refine .inr ⟨k, h1, ?_, h3⟩
          rw [hset]; split
          · rfl
          · exact h2
        · exact .inr ⟨i, hi, hsi, h⟩
      have hsize : (L.setIfInBounds i true).size = ops.size := by simpa using hL
      -- it is done
      have doit : ∀ e, n.e = some e → o.wpIn (FW ρ) nf P a1 w1 (wpAnyIn (FW ρ) nf P .any ops Q fuel (L.setIfInBounds i true)) Q := by
        intro e he
        have hev := evOp_again (ops := ops) (hFi.det e he) hslots hobjs
        refine evOp_ok hT (CallOK.once hcall _) hM1.objs (fun id h1 h2 => ?_) hM1.slots hev _ _ (fun e' v w' β' U' ⟨rd', hK'⟩ q2 q3 q4 => ?_) ρ nf
        · cases hu : U1 id with
          | none => rfl
          | some l =>
            rcases hM1.lim id (by rw [hu]; rfl) with h | ⟨k, _, hk2, hk3⟩
            · omega
            · have : k ≠ i := fun e => by subst e; rw [hd] at hk2; cases hk2
              omega
        · simp only [Option.some.injEq, Prod.mk.injEq] at hK'
          have he2 : e' = e := hK'.2
          subst he2
          have hnote : (stD ops base (fun k => L.getD k false) 0 ns s).note o.dst (base + 32 * i) n = (stD ops base (fun k => L.getD k false) 0 ns s).eff o.dst (base + 32 * i) e' := by simp only [St.note, he]
          refine ih _ w' _ β' U' hsize hcnt hcl' ?_ ?_
          · rw [hmore, hnote]
            exact (hM1.eff q2 q3 q4 o.dst).mono more_lim
          · rw [hmore, hnote, objs_eff]
            have := q4.far (np := s.np) (fun id hid => hM1.np id (by rw [hsame.np]; exact hid))
            exact hF1.trans this
      have skip : n.e = none → wpAnyIn (FW ρ) nf P .any ops Q fuel (L.setIfInBounds i true) (a1.put o.dst undef) w1 := by
        intro he
        have hnote : (stD ops base (fun k => L.getD k false) 0 ns s).note o.dst (base + 32 * i) n = (stD ops base (fun k => L.getD k false) 0 ns s).put o.dst .dead := by simp only [St.note, he]
        refine ih _ w1 _ β1 U1 hsize hcnt hcl' ?_ ?_
        · rw [hmore, hnote]
          exact (hM1.dead o.dst undef).mono fun id hid => more_lim id (.inl hid)
        · rw [hmore, hnote, objs_put]; exact hF1
      unfold wpOpIn
      rw [ho]
      simp only []
      cases hg : o.guard with
      | none =>
        obtain ⟨e, he⟩ := hFi.plain hg
        rw [if_pos (by simp [Region.wanted, hg])]
        exact doit e he
      | some jw =>
        obtain ⟨j, want⟩ := jw
        obtain ⟨g, b, hj, hs, hyes, hno⟩ := hFi.guard j want hg
        have hgl : g ∈ o.looksAt ops := by
          simp only [Oper.looksAt, hg, hj, Option.toList, List.mem_append]
          exact .inr (by simp)
        have hsg := hslots g hgl
        rw [hs] at hsg
        have hgv := hM1.slots g
        rw [hsg] at hgv
        simp only [RelT, RelL] at hgv
        have hy := yields hj hgv
        have hw : Region.wanted o (yielded ops a1.tmps) = (b == want) := by simp [Region.wanted, hg, hy]
        rw [hw]
        by_cases hbw : b = want
        · obtain ⟨e, he⟩ := hyes hbw
          rw [if_pos (by simp [hbw])]
          exact doit e he
        · rw [if_neg (by simpa using hbw)]
          exact ⟨fun _ _ => trivial, skip (hno hbw)⟩
  have hz : ∀ k, (Array.replicate ops.size false).getD k false = false := fun k => by
    simp only [Array.getD_eq_getD_getElem?, Array.getElem?_replicate]
    split <;> rfl
  have e0 : stD ops base (fun k => (Array.replicate ops.size false).getD k false) 0 ns s = s := by
    have : ∀ (ms : List Note) (k : Nat), stD ops base (fun k => (Array.replicate ops.size false).getD k false) k ms s = s := by
      intro ms
      induction ms with
      | nil => intro k; rfl
      | cons m ms ih => intro k; simp only [stD]; rw [if_neg (by rw [hz k]; simp)]; exact ih (k + 1)
    exact this ns 0
  have c0 : ∀ m, cnt (fun k => (Array.replicate ops.size false).getD k false) m = m := by
    intro m
    induction m with
    | zero => rfl
    | succ m ih => simp only [cnt]; rw [ih, if_neg (by rw [hz m]; simp)]
  refine main ops.size _ w a β U (by simp) (c0 _) (fun k o _ hk => by have hk : (Array.replicate ops.size false).getD k false = true := hk; rw [hz k] at hk; cases hk) ?_ ?_
  · rw [e0]; exact hM.mono fun id h => .inl h
  · rw [e0]; exact Far.refl _ _ _ _ _
end
end Go.Te
