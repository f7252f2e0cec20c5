/-
  heliographlaw14.SenderGaps: what is claimed and what is not have, together, each byte once.
  No conditions: every input that the statement lets in. Part TeJ: own work.
-/
import Derived.Test.YtfjklknekiogcaaTeD
import Derived.WalkSpells
import Derived.Laws.BytesArg
import Derived.Laws.MakeOwn
import Derived.Laws.OwnMore
import Derived.ArgAppend
import Derived.Laws.Tables
set_option linter.unusedVariables false
set_option linter.unusedSimpArgs false
namespace Go.Te
open Go.RowKit

section
variable {P : Program} {T : Nat → Option TI} {w : World} {Z : Nat → Prop} {β : Beta} {U : Nat → Option Nat} {objs : Nat → Obj} {id0 : Nat} {rd : List Nat} {e : Eff}

theorem eq_slice_nil_in (d : Nat) {t el : TypeId} (h : P.underlying t = some (.slice el)) (a : Option Addr) (n c n' c' : Nat) : (Op.equalIn (d + 1) t (.slice a n c) (.slice none n' c')).run P w = .ok a.isNone w := by
  cases a <;> simp [Op.equalIn, run_underlying h]
theorem eq_slice_nil {t el : TypeId} (h : P.underlying t = some (.slice el)) (a : Option Addr) (n c n' c' : Nat) : (Op.equal t (.slice a n c) (.slice none n' c')).run P w = .ok a.isNone w := eq_slice_nil_in 9999 h a n c n' c'
theorem eq_ptr_nil_in (d : Nat) {t el : TypeId} (h : P.underlying t = some (.pointer el)) (a : Option Addr) : (Op.equalIn (d + 1) t (.pointer a) (.pointer none)).run P w = .ok a.isNone w := by
  cases a <;> simp [Op.equalIn, run_underlying h]
theorem eq_ptr_nil {t el : TypeId} (h : P.underlying t = some (.pointer el)) (a : Option Addr) : (Op.equal t (.pointer a) (.pointer none)).run P w = .ok a.isNone w := eq_ptr_nil_in 9999 h a

theorem nilEq_ok (hO : RelO w Z β U objs) {d : TypeDesc} {x y : TV} {v u : Value} {r : Bool} (hx : RelT w (zz objs β Z) β U x v) (hy : RelT w (zz objs β Z) β U y u) (h : (nilEq d x y).Runs objs rd r) :
    (∃ el a n c n' c', d = .slice el ∧ v = .slice a n c ∧ u = .slice none n' c' ∧ r = a.isNone) ∨ (∃ el a, d = .pointer el ∧ v = .pointer a ∧ u = .pointer none ∧ r = a.isNone) := by
  unfold nilEq at h
  split at h
  · obtain ⟨rfl, _⟩ := h
    simp only [RelT] at hx hy
    exact .inl ⟨_, none, 0, 0, 0, 0, rfl, hx, hy, rfl⟩
  · obtain ⟨hn, h⟩ := runs_need h
    obtain ⟨rfl, _⟩ := h
    simp only [RelT, RelL] at hx hy
    obtain ⟨a, cap, rfl, _, hr⟩ := hx
    obtain ⟨b, off, rfl, _⟩ := hr (by simpa using hn)
    exact .inl ⟨_, _, _, _, _, _, rfl, rfl, hy, rfl⟩
  · obtain ⟨hn, h⟩ := runs_need h
    obtain ⟨rfl, _⟩ := h
    simp at hn
    simp only [RelT] at hx hy
    obtain ⟨_, ⟨hz, _⟩ | ⟨b, cap, et, s, hb, rfl, _⟩⟩ := hx
    · omega
    · exact .inl ⟨_, _, _, _, _, _, rfl, rfl, hy, rfl⟩
  · rename_i id k
    obtain ⟨rd', _, h⟩ := h
    simp only [RelT] at hx hy
    obtain ⟨L, hL, hx⟩ := hx
    cases ho : objs id with
    | dead => rw [ho] at h; exact h.elim
    | box _ => rw [ho] at h; exact h.elim
    | arr et es xs =>
      rw [ho] at h
      obtain ⟨hn, h⟩ := runs_need h
      obtain ⟨rfl, _⟩ := h
      have hu := (arrCell hO ho).1
      rw [hL] at hu
      cases hu
      simp at hn
      rcases hx with ⟨hz, _⟩ | ⟨b, cap, et, s, hb, rfl, _⟩
      · exact absurd (List.eq_nil_of_length_eq_zero hz) hn
      · exact .inl ⟨_, _, _, _, _, _, rfl, rfl, hy, rfl⟩
  · obtain ⟨rfl, _⟩ := h
    simp only [RelT] at hx hy
    exact .inl ⟨_, _, _, _, _, _, rfl, hx.1, hy, rfl⟩
  · obtain ⟨rfl, _⟩ := h
    simp only [RelT] at hx hy
    obtain ⟨_, b, o, _, rfl⟩ := hx
    exact .inr ⟨_, _, rfl, rfl, hy.1, rfl⟩
  · obtain ⟨rfl, _⟩ := h
    simp only [RelT] at hx hy
    obtain ⟨_, b, o, _, rfl⟩ := hx
    exact .inr ⟨_, _, rfl, rfl, hy.1, rfl⟩
  · obtain ⟨rfl, _⟩ := h
    simp only [RelT] at hx hy
    obtain ⟨b, o, _, _, rfl, _⟩ := hx
    exact .inr ⟨_, _, rfl, rfl, hy.1, rfl⟩
  · obtain ⟨rfl, _⟩ := h
    simp only [RelT] at hx hy
    exact .inr ⟨_, _, rfl, hx.1, hy.1, rfl⟩
  · exact h.elim

theorem binOther_run {op : BinOp} {xt : TypeId} {x y : Operand} {v u : Value} {r : Bool} (hs : (∃ a n c n' c', v = .slice a n c ∧ u = .slice none n' c') ∨ ∃ a, v = .pointer a ∧ u = .pointer none)
    (hr : (Op.equal xt v u).run P w = .ok r w) : (op = .eql → (binSem op xt x y v u).run P w = .ok (.bool r) w) ∧ (op = .neq → (binSem op xt x y v u).run P w = .ok (.bool (!r)) w) := by
  have hg : (eqGuard op xt x y v u).run P w = .ok () w := guard_none (by rcases hs with ⟨_, _, _, _, _, rfl, rfl⟩ | ⟨_, rfl, rfl⟩ <;> simp) (by rcases hs with ⟨_, _, _, _, _, rfl, rfl⟩ | ⟨_, rfl, rfl⟩ <;> simp)
  constructor
  · rintro rfl
    rcases hs with ⟨a, _, _, _, _, rfl, rfl⟩ | ⟨a, rfl, rfl⟩
    · simp only [binSem, Sem.run_bind, hg, Result.andThen_ok, binOp, hr, Sem.run_pure]
    · cases a <;> simp only [binSem, Sem.run_bind, hg, Result.andThen_ok, binOp, hr, Sem.run_pure]
  · rintro rfl
    rcases hs with ⟨a, _, _, _, _, rfl, rfl⟩ | ⟨a, rfl, rfl⟩
    · simp only [binSem, Sem.run_bind, hg, Result.andThen_ok, binOp, hr, Sem.run_pure]
    · cases a <;> simp only [binSem, Sem.run_bind, hg, Result.andThen_ok, binOp, hr, Sem.run_pure]

theorem bin_ok (hT : TOk P T) (hO : RelO w Z β U objs) {op : BinOp} {xt : TypeId} {xo yo : Operand} {x y : TV} {v u : Value} (hx : RelT w (zz objs β Z) β U x v) (hy : RelT w (zz objs β Z) β U y u)
    (h : (evBin T op xt x y).Runs objs rd e) : Tells P (binSem op xt xo yo v u) w Z β U objs id0 e := by
  unfold evBin at h
  split at h
  · simp only [RelT, RelL] at hx hy
    subst hx; subst hy
    exact binI_ok hO h
  · simp only [RelT, RelL] at hx hy
    subst hx; subst hy
    exact binS_ok hO h
  · simp only [RelT, RelL] at hx hy
    subst hx; subst hy
    obtain ⟨ti, ht, h⟩ := runs_ofOpt h
    have hu := (hT xt ti ht).1
    have hg : ∀ (a b : Bool), (eqGuard op xt xo yo (.bool a) (.bool b)).run P w = .ok () w := fun a b => guard_none (by simp) (by simp)
    cases hd : ti.desc with
    | bool =>
      rw [hd] at h hu
      cases op with
      | eql =>
        obtain ⟨rfl, _⟩ := h
        exact tells_quiet hO (by simp only [binSem, Sem.run_bind, hg, Result.andThen_ok]; exact run_eql_bool w xt _ _ hu) (by simp only [RelT, RelL])
      | neq =>
        obtain ⟨rfl, _⟩ := h
        exact tells_quiet hO (by simp only [binSem, Sem.run_bind, hg, Result.andThen_ok]; exact run_neq_bool w xt _ _ hu) (by simp only [RelT, RelL])
      | _ => exact h.elim
    | _ => rw [hd] at h; exact h.elim
  · rename_i xs ys
    obtain ⟨ti, ht, h⟩ := runs_ofOpt h
    obtain ⟨hpl, h⟩ := runs_need h
    obtain ⟨r, hr, h⟩ := runs_ofOpt h
    simp only [RelT] at hx hy
    obtain ⟨vs, rfl, hx⟩ := hx
    obtain ⟨us, rfl, hy⟩ := hy
    simp only [Bool.and_eq_true] at hpl
    have hag := hpl.2
    replace hpl := hpl.1
    have hrun := eqT_ok (w := w) (Z := zz objs β Z) (β := β) (U := U) hT 20 xt xs ys r hr 10000 (.agg vs) (.agg us) (by omega) (fun _ => ⟨vs, us, rfl, rfl, hx, hy⟩) (fun ⟨ti', h', h''⟩ => by rw [ht] at h'; cases h'; rw [hag] at h''; cases h'')
    obtain ⟨_, hgt, _⟩ := (hT xt ti ht).2.elim fun i hi => hi.2.2 hpl
    have hg : (op = .eql ∨ op = .neq) → (eqGuard op xt xo yo (.agg vs) (.agg us)).run P w = .ok () w := by
      rintro (rfl | rfl) <;> simp [eqGuard, hgt]
    split at h
    · obtain ⟨rfl, _⟩ := h
      exact tells_quiet hO (v := .bool r) (by simp only [binSem, Sem.run_bind, hg (.inl rfl), Result.andThen_ok, binOp, Op.equal, Op.maxDepth, hrun, Sem.run_pure]) (by simp only [RelT, RelL])
    · obtain ⟨rfl, _⟩ := h
      exact tells_quiet hO (v := .bool (!r)) (by simp only [binSem, Sem.run_bind, hg (.inr rfl), Result.andThen_ok, binOp, Op.equal, Op.maxDepth, hrun, Sem.run_pure]) (by simp only [RelT, RelL])
    · exact h.elim
  · obtain ⟨ti, ht, h⟩ := runs_ofOpt h
    have hu := (hT xt ti ht).1
    have key : ∀ {r : Bool} {rd : List Nat}, (nilEq ti.desc x y).Runs objs rd r → (Op.equal xt v u).run P w = .ok r w ∧ ((∃ a n c n' c', v = .slice a n c ∧ u = .slice none n' c') ∨ ∃ a, v = .pointer a ∧ u = .pointer none) := by
      intro r rd h
      rcases nilEq_ok hO hx hy h with ⟨el, a, n, c, n', c', hd, rfl, rfl, rfl⟩ | ⟨el, a, hd, rfl, rfl, rfl⟩
      · rw [hd] at hu
        exact ⟨eq_slice_nil hu _ _ _ _ _, .inl ⟨_, _, _, _, _, rfl, rfl⟩⟩
      · rw [hd] at hu
        exact ⟨eq_ptr_nil hu _, .inr ⟨_, rfl, rfl⟩⟩
    split at h
    · obtain ⟨_, _, r, h1, h2, _⟩ := Prog.runs_bind _ _ h
      obtain ⟨rfl, _⟩ := h2
      obtain ⟨k1, k2⟩ := key h1
      exact tells_quiet hO ((binOther_run k2 k1).1 rfl) (by simp only [RelT, RelL])
    · obtain ⟨_, _, r, h1, h2, _⟩ := Prog.runs_bind _ _ h
      obtain ⟨rfl, _⟩ := h2
      obtain ⟨k1, k2⟩ := key h1
      exact tells_quiet hO ((binOther_run k2 k1).2 rfl) (by simp only [RelT, RelL])
    · exact h.elim
end
end Go.Te
set_option linter.unusedVariables false
set_option linter.unusedSimpArgs false
namespace Go.Te
open Go.RowKit

/-! ### 24. Rows elsewhere -/
section
mutual
theorem RelRow.move {w w' : World} {Z Z' own : Nat → Prop} (h : WStep own w w') (ho : ∀ b, b < w.heap.size → own b → Z b) (hz : ∀ b, b < w.heap.size → Z' b → Z b) :
    ∀ (es : List Leaf) (x : Row es) (b o b' o' : Nat), (∀ p v, p < es.length → w.cell? ⟨b, o + p, none⟩ = some v → w'.cell? ⟨b', o' + p, none⟩ = some v) → RelRow w Z es x b o → RelRow w' Z' es x b' o'
  | [], _, _, _, _, _, _, _ => trivial
  | [l], x, b, o, b', o', hb, r => by
    simp only [RelRow] at r ⊢
    obtain ⟨v, hv, hr⟩ := r
    exact ⟨v, hb 0 _ (by simp) hv, RelL.step h ho hz l x v hr⟩
  | l :: l' :: ls, x, b, o, b', o', hb, r => by
    simp only [RelRow] at r ⊢
    obtain ⟨⟨v, hv, hr⟩, hs⟩ := r
    exact ⟨⟨v, hb 0 _ (by simp) hv, RelL.step h ho hz l x.1 v hr⟩, RelRow.move h ho hz (l' :: ls) x.2 b (o + 1) b' (o' + 1) (fun p v hp hc => by
      have := hb (p + 1) v (by simp at hp ⊢; omega) (by rwa [show o + 1 + p = o + (p + 1) by omega] at hc)
      rwa [show o' + (p + 1) = o' + 1 + p by omega] at this) hs⟩
end
theorem relL_one {w : World} {Z : Nat → Prop} {l : Leaf} {x : l.T} {v : Value} (h : RelL w Z l x v) : v.oneCell' = true := by
  cases l <;> simp only [RelL] at h <;> first | (subst h; rfl) | (obtain ⟨_, _, rfl, _⟩ := h; rfl)

/-- The cells of rows that stand one behind the other. -/
theorem rows_cells {w : World} {Z : Nat → Prop} {es : List Leaf} {xs : List (Row es)} {b off : Nat} (h : ∀ (i : Nat) x, xs[i]? = some x → RelRow w Z es x b (off + i * es.length)) :
    ∃ us : List Value, us.length = xs.length * es.length ∧ (∀ (j : Nat) u, us[j]? = some u → w.cell? ⟨b, off + j, none⟩ = some u) ∧ ∀ u ∈ us, u.oneCell' = true := by
  have key : ∀ j, j < xs.length * es.length → ∃ u, w.cell? ⟨b, off + j, none⟩ = some u ∧ u.oneCell' = true := by
    intro j hj
    have hk : 0 < es.length := by
      rcases Nat.eq_zero_or_pos es.length with e | e
      · rw [e] at hj; omega
      · exact e
    have hi : j / es.length < xs.length := Nat.div_lt_of_lt_mul (by rw [Nat.mul_comm]; exact hj)
    have hp : j % es.length < es.length := Nat.mod_lt _ hk
    have hr := h (j / es.length) xs[j / es.length] (by simp [hi])
    obtain ⟨u, hu, hr⟩ := leaves_at es _ b _ hr (j % es.length) ((leaves es xs[j / es.length])[j % es.length]'(by rw [leaves_len]; exact hp)) (List.getElem?_eq_getElem _)
    have e : off + j / es.length * es.length + j % es.length = off + j := by
      have := Nat.div_add_mod j es.length
      rw [Nat.mul_comm] at this
      omega
    rw [e] at hu
    exact ⟨u, hu, relL_one hr⟩
  refine ⟨(List.range (xs.length * es.length)).map fun j => (w.cell? ⟨b, off + j, none⟩).getD undef, by simp, fun j u hu => ?_, fun u hu => ?_⟩
  · have hj : j < xs.length * es.length := by
      have := (List.getElem?_eq_some_iff.1 hu).1
      simpa using this
    obtain ⟨u', hu', _⟩ := key j hj
    simp only [List.getElem?_map, List.getElem?_range hj, Option.map_some, hu', Option.getD_some, Option.some.injEq] at hu
    rw [← hu]; exact hu'
  · simp only [List.mem_map, List.mem_range] at hu
    obtain ⟨j, hj, rfl⟩ := hu
    obtain ⟨u', hu', h1⟩ := key j hj
    rw [hu']; exact h1
end

section
variable {P : Program} {T : Nat → Option TI} {w : World} {Z : Nat → Prop} {β : Beta} {U : Nat → Option Nat} {objs : Nat → Obj} {id0 : Nat} {rd : List Nat} {e : Eff}

theorem rowCast_ok {es es' : List Leaf} {xs : List (Row es)} {ys : List (Row es')} (h : rowCast es es' xs = some ys) : ∃ he : es = es', he ▸ xs = ys := by
  unfold rowCast at h
  split at h
  · rename_i hs
    cases h
    exact ⟨eq_of_sameAll es es' hs, rfl⟩
  · cases h

theorem arr_rows (hO : RelO w Z β U objs) {id : Nat} {t : TypeId} {es : List Leaf} {xs : List (Row es)} (ho : objs id = .arr t es xs) {k : Nat} (n : Nat) (hn : n ≤ xs.length) {v : Value}
    (hv : (n = 0 ∧ v = .slice none 0 0 ∧ β id = none) ∨ ∃ b cap e s, β id = some (b, 0) ∧ v = .slice (some ⟨b, 0, none⟩) n cap ∧ n ≤ cap ∧ cap ≤ maxLen ∧ w.shape? b = some (e, s) ∧ cap * k = s) :
    ∃ a c, v = .slice a (xs.take n).length c ∧ (xs.take n ≠ [] → ∃ b off, a = some ⟨b, off, none⟩ ∧ ∀ (i : Nat) y, (xs.take n)[i]? = some y → RelRow w (zz objs β Z) es y b (off + i * es.length)) := by
  obtain ⟨hu, hr⟩ := arrCell hO ho
  have hl : (xs.take n).length = n := by simp; omega
  rw [hl]
  rcases hv with ⟨rfl, rfl, _⟩ | ⟨b, cap, e, s, hb, rfl, hc, _, _, _⟩
  · exact ⟨_, _, rfl, fun h => by simp at h⟩
  · refine ⟨_, _, rfl, fun hne => ?_⟩
    rcases hr with ⟨rfl, _⟩ | ⟨b', cur, h1, h2, h3⟩
    · simp at hne
    · rw [hb] at h1
      cases h1
      refine ⟨b, 0, rfl, fun i x hx => ?_⟩
      rw [List.getElem?_take] at hx
      split at hx
      · simpa using h3 i x hx
      · cases hx

/-- What is appended: where it stands. -/
theorem src_ok (hO : RelO w Z β U objs) {es : List Leaf} {x : TV} {v : Value} {ys : List (Row es)} (hx : RelT w (zz objs β Z) β U x v) (h : (srcOf es x).Runs objs rd ys) :
    ∃ a c, v = .slice a ys.length c ∧ (ys ≠ [] → ∃ b off, a = some ⟨b, off, none⟩ ∧ ∀ (i : Nat) y, ys[i]? = some y → RelRow w (zz objs β Z) es y b (off + i * es.length)) := by
  cases x with
  | d l xs =>
    cases l with
    | sl es' =>
      obtain ⟨ys', hc, h⟩ := h
      obtain ⟨rfl, _⟩ := h
      obtain ⟨he, hq⟩ := rowCast_ok hc
      subst he
      cases hq
      simp only [RelT, RelL] at hx
      obtain ⟨a, cap, rfl, hcap, hr⟩ := hx
      refine ⟨a, cap, rfl, fun hne => ?_⟩
      obtain ⟨b, off, ha, _, _, hrow⟩ := hr hne
      exact ⟨b, off, ha, hrow⟩
    | _ => exact h.elim
  | nil =>
    obtain ⟨rfl, _⟩ := h
    simp only [RelT] at hx
    exact ⟨none, 0, hx, fun h => absurd rfl h⟩
  | arr id k n =>
    simp only [RelT] at hx
    obtain ⟨⟨L, hL, hn⟩, hv⟩ := hx
    obtain ⟨rd', _, h⟩ := h
    cases ho : objs id with
    | dead => rw [ho] at h; exact h.elim
    | box _ => rw [ho] at h; exact h.elim
    | arr t es' xs =>
      rw [ho] at h
      obtain ⟨ys', hc, h⟩ := h
      obtain ⟨rfl, _⟩ := h
      obtain ⟨he, hq⟩ := rowCast_ok hc
      subst he
      cases hq
      have hu := (arrCell hO ho).1
      rw [hL] at hu
      cases hu
      exact arr_rows hO ho n hn hv
  | arrF id k =>
    simp only [RelT] at hx
    obtain ⟨L, hL, hv⟩ := hx
    obtain ⟨rd', _, h⟩ := h
    cases ho : objs id with
    | dead => rw [ho] at h; exact h.elim
    | box _ => rw [ho] at h; exact h.elim
    | arr t es' xs =>
      rw [ho] at h
      obtain ⟨ys', hc, h⟩ := h
      obtain ⟨rfl, _⟩ := h
      obtain ⟨he, hq⟩ := rowCast_ok hc
      subst he
      cases hq
      have hu := (arrCell hO ho).1
      rw [hL] at hu
      cases hu
      have := arr_rows hO ho xs.length (Nat.le_refl _) hv
      rwa [List.take_length] at this
  | raw u =>
    simp only [srcOf] at h
    split at h
    · rename_i heq; cases heq
    · rename_i heq; cases heq
    · rename_i heq; cases heq
    · rename_i heq; cases heq
    · rename_i a c heq
      cases heq
      obtain ⟨rfl, _⟩ := h
      simp only [RelT] at hx
      exact ⟨a, c, hx.1, fun h => absurd rfl h⟩
    · exact h.elim
  | _ => exact h.elim

/-- An object without a place. -/
theorem relO_noplace (hO : RelO w Z β U objs) (hid : U id0 = none) {objs' : Nat → Obj} (et : TypeId) (es : List Leaf) (h0 : objs' id0 = .arr et es []) (hk : ∀ j, j ≠ id0 → objs' j = objs j ∨ objs' j = .dead) :
    RelO w Z (fun j => if j = id0 then none else β j) (fun j => if j = id0 then some 0 else U j) objs' ∧ Fit w β U objs w (fun j => if j = id0 then none else β j) (fun j => if j = id0 then some 0 else U j) objs' id0 (id0 + 32) := by
  have hdead : objs id0 = .dead := hO.lim id0 hid
  have hal : ∀ j, j ≠ id0 → (objs' j).alive = true → (objs j).alive = true := fun j hj h => by rcases hk j hj with e | e <;> rw [e] at h <;> first | exact h | cases h
  have hown : ∀ x, own objs' (fun j => if j = id0 then none else β j) x → own objs β x := by
    rintro x ⟨j, q, ha, hb⟩
    by_cases e : j = id0
    · simp [e] at hb
    · simp only [e, if_false] at hb
      exact ⟨j, q, hal j e ha, hb⟩
  have hsub : ∀ j l, U j = some l → (if j = id0 then some 0 else U j) = some l := fun j l h => by
    by_cases e : j = id0
    · subst e; rw [hid] at h; cases h
    · rw [if_neg e]; exact h
  have hle : Beta.le U β (fun j => if j = id0 then none else β j) := fun j hj => by
    by_cases e : j = id0
    · subst e; rw [hid] at hj; cases hj
    · simp [e]
  have tv : ∀ {x : TV} {v : Value}, RelT w (zz objs β Z) β U x v → RelT w (zz objs' (fun j => if j = id0 then none else β j) Z) (fun j => if j = id0 then none else β j) (fun j => if j = id0 then some 0 else U j) x v := fun {x v} h =>
    RelT.step (own := fun _ => False) (WStep.refl _ w) (fun _ _ q => q.elim) (fun x _ q => q.imp (fun q => q) (hown x)) hle hsub x v h
  have row : ∀ {es : List Leaf} {x : Row es} {b o : Nat}, RelRow w (zz objs β Z) es x b o → RelRow w (zz objs' (fun j => if j = id0 then none else β j) Z) es x b o := fun {es x b o} h =>
    RelRow.step (own := fun _ => False) (WStep.refl _ w) (fun _ _ q => q.elim) (fun x _ q => q.imp (fun q => q) (hown x)) es x b o (fun _ _ _ _ h => h) h
  refine ⟨⟨fun j => ?_, fun i j b q q' hi hj h1 h2 => ?_, fun j hj => ?_, hO.zlt, fun b hb ho => hO.apart b hb (hown b ho)⟩, ⟨WStep.refl _ _, fun x _ => hown x, hle, hsub, fun j hj => ?_⟩⟩
  · by_cases e : j = id0
    · subst e
      rw [h0]
      exact ⟨by simp, .inl ⟨rfl, by simp⟩⟩
    · have hr := hO.obj j
      rcases hk j e with he | he
      · rw [he]
        cases ho : objs j with
        | dead => trivial
        | box cs =>
          rw [ho] at hr
          obtain ⟨b, o, h1, h2, h3, h4⟩ := hr
          exact ⟨b, o, by simpa [e] using h1, h2, h3, fun i x hx => let ⟨v, hv, hr⟩ := h4 i x hx; ⟨v, hv, tv hr⟩⟩
        | arr et' es' xs =>
          rw [ho] at hr
          exact ⟨hsub j _ hr.1, hr.2.imp (fun q => ⟨q.1, by simpa [e] using q.2⟩) fun ⟨b, cur, h1, h2, h3⟩ => ⟨b, cur, by simpa [e] using h1, h2, fun i x hx => row (h3 i x hx)⟩⟩
      · rw [he]; trivial
  · by_cases ei : i = id0
    · simp [ei] at h1
    · by_cases ej : j = id0
      · simp [ej] at h2
      · simp only [ei, ej, if_false] at h1 h2
        exact hO.inj i j b q q' (hal i ei hi) (hal j ej hj) h1 h2
  · by_cases e : j = id0
    · simp [e] at hj
    · simp only [e, if_false] at hj
      rcases hk j e with he | he
      · rw [he]; exact hO.lim j hj
      · exact he
  · by_cases e : j = id0
    · exact .inr (by omega)
    · simp only [e, if_false] at hj; exact .inl hj

theorem shape_lt {b : Nat} {x : TypeId × Nat} (h : w.shape? b = some x) : b < w.heap.size := by
  simp only [World.shape?] at h
  split at h
  · rename_i hh; exact (Array.getElem?_eq_some_iff.1 hh).1
  · cases h

/-- A new array whose first cells are these rows', which stand elsewhere now. -/
theorem new_arr (hO : RelO w Z β U objs) (hid : U id0 = none) {w1 : World} (hw : w1 = w ∨ w1 = w.drew) (et : TypeId) (es : List Leaf) (xs : List (Row es)) (cs : Array Value) (cap : Nat) (hcap : xs.length ≤ cap) (hmax : cap ≤ maxLen) (hsz : cs.size = cap * es.length)
    {objs' : Nat → Obj} (h0 : objs' id0 = .arr et es xs) (hk : ∀ j, j ≠ id0 → objs' j = objs j ∨ objs' j = .dead)
    (hr : ∀ (i : Nat) x, xs[i]? = some x → ∃ b o, RelRow w (zz objs β Z) es x b o ∧ ∀ p v, p < es.length → w.cell? ⟨b, o + p, none⟩ = some v → cs[i * es.length + p]? = some v) :
    ∃ β' U', RelT (w1.alloc (.cells cs et)) (zz objs' β' Z) β' U' (.arrF id0 es.length) (.slice (some ⟨w.heap.size, 0, none⟩) xs.length cap) ∧ RelO (w1.alloc (.cells cs et)) Z β' U' objs' ∧ Fit w β U objs (w1.alloc (.cells cs et)) β' U' objs' id0 (id0 + 32) := by
  have hh : w1.heap = w.heap := by rcases hw with rfl | rfl <;> rfl
  have hstep : WStep (fun x => x = w.heap.size) w (w1.alloc (.cells cs et)) := by
    have h1 : WStep (fun _ => False) w w1 := by rcases hw with rfl | rfl <;> first | exact WStep.refl _ _ | exact wstep_drew (WStep.refl _ _)
    exact (h1.trans (wstep_alloc (fun _ => False) w1 cs et) (fun _ _ q => q)).mono (fun _ _ q => q.elim)
  have hsize : (w1.alloc (.cells cs et)).heap.size = w.heap.size + 1 := by simp [hh]
  have hheap : (w1.alloc (.cells cs et)).heap[w.heap.size]? = some (.cells cs et (0, 0)) := by
    show (w1.heap.push _)[w.heap.size]? = _
    rw [hh]; simp
  have tn : Turn w Z β U objs (w1.alloc (.cells cs et)) (fun j => if j = id0 then some (w.heap.size, 0) else β j) objs' w.heap.size 0 id0 xs.length := by
    refine ⟨hO, hstep, .inr (Nat.le_refl _), by omega, hk, fun j hj hal q e => ?_, by simp, fun j hj => by simp [hj], fun l h => by rw [hid] at h; cases h⟩
    have hal' : (objs j).alive = true := by rcases hk j hj with h | h <;> rw [h] at hal <;> first | exact hal | cases hal
    exact absurd (own_lt hO ⟨j, q, hal', e⟩) (by omega)
  refine ⟨_, _, ?_, tn.relO ?_, fit_turn tn _ _ (.inr ⟨Nat.le_refl _, by omega⟩)⟩
  · simp only [RelT]
    exact ⟨xs.length, by simp, .inr ⟨w.heap.size, cap, et, cs.size, by simp, rfl, hcap, hmax, by simp [World.shape?, hheap], hsz.symm⟩⟩
  · rw [h0]
    refine ⟨by simp, .inr ⟨w.heap.size, cs, by simp, hheap, fun i x hx => ?_⟩⟩
    obtain ⟨b, o, hrow, hc⟩ := hr i x hx
    exact RelRow.move tn.step tn.hown tn.zsub es x b o w.heap.size _ (fun p v hp hv => by
      simp only [World.cell?, hheap]
      exact hc p v hp hv) hrow
end
end Go.Te
set_option linter.unusedVariables false
set_option linter.unusedSimpArgs false
namespace Go.Te
open Go.RowKit

/-! ### 25. 'append' -/
section
variable {P : Program} {T : Nat → Option TI} {w : World} {Z : Nat → Prop} {β : Beta} {U : Nat → Option Nat} {objs : Nat → Obj} {id0 : Nat} {rd : List Nat} {e : Eff}

theorem app_zero {t et ty : TypeId} {i : TypeInfo} (ht : P.underlying t = some (.slice et)) (hi : P.info? et = some i) (a : Option Addr) (n cap : Nat) (hc : n ≤ cap) (s : Option Addr) (c : Nat) :
    (Builtin.append_ #[t, t] ty #[.slice s n cap, .slice a 0 c]).run P w = .ok (.slice s n cap) w := by
  cases a with
  | none => cases s <;> simp [Builtin.append_, run_underlying ht, sizeOf, typeInfo, hi, Builtin.lenOf, hc, Builtin.firstCells, storeCells]
  | some a =>
    have hf := run_firstCells_some (P := P) w i.size 0 a 0 c [] (by simp) (by simp)
    cases s <;> simp [Builtin.append_, run_underlying ht, sizeOf, typeInfo, hi, Builtin.lenOf, hc, hf, storeCells]

/-- What is known of the slice that is appended to. -/
def Base (w : World) (Z : Nat → Prop) (β : Beta) (objs : Nat → Obj) (id0 : Nat) (objs' : Nat → Obj) (et : TypeId) (es : List Leaf) (xs : List (Row es)) (sv : Value) : Prop :=
  (sv = .slice none 0 0 ∧ xs = []) ∨
  ∃ b cap cur, sv = .slice (some ⟨b, 0, none⟩) xs.length cap ∧ own objs β b ∧ w.heap[b]? = some (.cells cur et (0, 0)) ∧ xs.length ≤ cap ∧ cap ≤ maxLen ∧ cap * es.length = cur.size ∧
    (∀ (i : Nat) x, xs[i]? = some x → RelRow w (zz objs β Z) es x b (i * es.length)) ∧ ∀ j, j ≠ id0 → (objs' j).alive = true → ∀ q, β j ≠ some (b, q)

theorem cell_lt {b o : Nat} {cur : Array Value} {et : TypeId} (h : w.heap[b]? = some (.cells cur et (0, 0))) : (w.cell? ⟨b, o, none⟩).isSome = decide (o < cur.size) := by
  simp only [World.cell?, h]
  by_cases hc : o < cur.size
  · simp [hc]
  · simp [hc]

theorem app_main (hT : TOk P T) (hO : RelO w Z β U objs) (hid : U id0 = none) {t et ty : TypeId} {ei : TI} (ht : P.underlying t = some (.slice et)) (he : T et = some ei) {es : List Leaf} (hes : es.length = ei.size) (hpos : 0 < ei.size) (hz : ei.zero.cells.size = ei.size)
    {objs' : Nat → Obj} (hk : ∀ j, j ≠ id0 → objs' j = objs j ∨ objs' j = .dead) {xs ys : List (Row es)} (h0 : objs' id0 = .arr et es (xs ++ ys)) {sv v : Value} (hb : Base w Z β objs id0 objs' et es xs sv)
    (hs : ∃ a c, v = .slice a ys.length c ∧ (ys ≠ [] → ∃ b off, a = some ⟨b, off, none⟩ ∧ ∀ (i : Nat) y, ys[i]? = some y → RelRow w (zz objs β Z) es y b (off + i * es.length)))
    (hsm : xs.length + ys.length < 1099511627776 / (ei.bytes + 1)) :
    ∃ v' w' β' U', (Builtin.append_ #[t, t] ty #[sv, v]).run P w = .ok v' w' ∧ RelT w' (zz objs' β' Z) β' U' (.arrF id0 es.length) v' ∧ RelO w' Z β' U' objs' ∧ Fit w β U objs w' β' U' objs' id0 (id0 + 32) := by
  obtain ⟨hu, i, hi, ⟨hisz, hiby, hiz⟩, _⟩ := hT et ei he
  obtain ⟨a, c, rfl, hsrc⟩ := hs
  have hmul : (xs.length + ys.length) * (ei.bytes + 1) ≤ 1099511627776 := by
    have h1 : xs.length + ys.length ≤ 1099511627776 / (ei.bytes + 1) := Nat.le_of_lt hsm
    exact Nat.le_trans (Nat.mul_le_mul_right _ h1) (Nat.div_mul_le_self _ _)
  rw [Nat.mul_add] at hmul
  have hml : xs.length + ys.length ≤ 1099511627776 := by omega
  have hmb : (xs.length + ys.length) * i.bytes ≤ 1099511627776 := by rw [hiby]; omega
  have hmax : xs.length + ys.length ≤ maxLen := by simp only [maxLen]; omega
  -- the cells of what is appended
  have hnews : ys ≠ [] → ∃ ad : Addr, a = some ad ∧ ∃ news : List Value, news.length = ys.length * i.size ∧ (∀ j u, news[j]? = some u → w.cell? (ad.add j) = some u) ∧ (∀ u ∈ news, u.oneCell' = true) ∧
      ∀ (q : Nat) y, ys[q]? = some y → ∃ b o, RelRow w (zz objs β Z) es y b o ∧ ∀ p u, p < es.length → w.cell? ⟨b, o + p, none⟩ = some u → news[q * es.length + p]? = some u := by
    intro hne
    obtain ⟨b, off, rfl, hr⟩ := hsrc hne
    obtain ⟨news, hl, hcell, hone⟩ := rows_cells hr
    refine ⟨⟨b, off, none⟩, rfl, news, by rw [hl, hes, hisz], fun j u hu => by rw [addr_add]; exact hcell j u hu, hone, fun q y hy => ⟨b, _, hr q y hy, fun p u hp hu => ?_⟩⟩
    have hq : q < ys.length := (List.getElem?_eq_some_iff.1 hy).1
    have hlt : q * es.length + p < news.length := by
      rw [hl]
      have : (q + 1) * es.length ≤ ys.length * es.length := Nat.mul_le_mul_right _ hq
      rw [Nat.succ_mul] at this
      omega
    have := hcell _ _ (List.getElem?_eq_getElem hlt)
    rw [show off + (q * es.length + p) = off + q * es.length + p by omega, hu] at this
    rw [List.getElem?_eq_getElem hlt]
    exact this.symm
  rcases hb with ⟨rfl, rfl⟩ | ⟨b, cap, cur, rfl, hownb, hheap, hcap, hcm, hcs, hrows, hfree⟩
  · by_cases hy : ys = []
    · subst hy
      obtain ⟨h1, h2⟩ := relO_noplace hO hid et es (by simpa using h0) hk
      refine ⟨_, w, _, _, app_zero ht hi a 0 0 (Nat.le_refl _) none c, ?_, h1, h2⟩
      simp only [RelT]
      exact ⟨0, by simp, .inl (by simp)⟩
    · obtain ⟨ad, rfl, news, hnl, hnc, hno, hnr⟩ := hnews hy
      have hm : 0 < ys.length := List.length_pos_iff.2 hy
      simp only [List.length_nil, Nat.zero_add] at hml hmb hmax
      have hrun := run_append_nil (P := P) w t ty et i ei.zero ht hi hiz ad ys.length c news hnl hnc hm (by omega) (by omega)
      have hge := grownCap_ge w ys.length 0 et
      obtain ⟨β', U', hv, hO', hF⟩ := new_arr hO hid (w1 := w.drew) (.inr rfl) et es ys (news.toArray ++ Builtin.zeroCells ei.zero.cells (grownCap w ys.length 0 et - ys.length)) (grownCap w ys.length 0 et) hge (grownCap_le_maxLen w _ 0 et hmax)
        (by rw [Array.size_append, size_zeroCells, hz, hes]
            simp only [List.size_toArray, hnl, hisz]
            rw [← Nat.add_mul]; congr 1; omega) (by simpa using h0) hk (fun q y hq => by
          obtain ⟨b, o, h1, h2⟩ := hnr q y hq
          refine ⟨b, o, h1, fun p u hp hu => ?_⟩
          have := h2 p u hp hu
          have hlt := (List.getElem?_eq_some_iff.1 this).1
          rw [Array.getElem?_append_left (by simpa using hlt)]
          simpa using this)
      exact ⟨_, _, β', U', hrun, hv, hO', hF⟩
  · have hlt : b < w.heap.size := (Array.getElem?_eq_some_iff.1 hheap).1
    have hshape : w.shape? b = some (et, cur.size) := by simp [World.shape?, hheap]
    by_cases hroom : xs.length + ys.length ≤ cap
    · have hspace : xs.length * es.length + ys.length * es.length ≤ cur.size := by
        rw [← Nat.add_mul, ← hcs]
        exact Nat.mul_le_mul_right _ hroom
      have main : ∃ news : List Value, news.length = ys.length * es.length ∧ (Builtin.append_ #[t, t] ty #[.slice (some ⟨b, 0, none⟩) xs.length cap, .slice a ys.length c]).run P w = .ok (.slice (some ⟨b, 0, none⟩) (xs.length + ys.length) cap) (w.setCells b (xs.length * es.length) news) ∧
          ∀ (q : Nat) y, ys[q]? = some y → ∃ b o, RelRow w (zz objs β Z) es y b o ∧ ∀ p u, p < es.length → w.cell? ⟨b, o + p, none⟩ = some u → news[q * es.length + p]? = some u := by
        by_cases hy : ys = []
        · subst hy
          exact ⟨[], by simp, by simpa [World.setCells] using app_zero ht hi a xs.length cap hcap (some ⟨b, 0, none⟩) c, fun q y hq => by simp at hq⟩
        · obtain ⟨ad, rfl, news, hnl, hnc, hno, hnr⟩ := hnews hy
          have hrun := run_append_room_cells (P := P) w t ty et i ht hi b 0 xs.length cap ad ys.length c news hnl hnc hno hroom
            (fun j hj => by rw [cell_lt hheap]; simp only [decide_eq_true_eq]; rw [hnl] at hj; rw [hisz, ← hes] at hj ⊢; omega) (fun j _ => by simp [World.frozen?, hheap])
          rw [hisz, ← hes, Nat.zero_add] at hrun
          exact ⟨news, by rw [hnl, hisz, hes], hrun, hnr⟩
      obtain ⟨news, hnl, hrun, hnr⟩ := main
      have tn : Turn w Z β U objs (w.setCells b (xs.length * es.length) news) (fun j => if j = id0 then some (b, 0) else β j) objs' b 0 id0 (xs ++ ys).length :=
        ⟨hO, setCells_step b _ _ w, .inl hownb, Nat.lt_of_lt_of_le hlt (setCells_step b _ _ w).size, hk, hfree, by simp, fun j hj => by simp [hj], fun l h => by rw [hid] at h; cases h⟩
      refine ⟨_, _, _, _, hrun, ?_, tn.relO ?_, fit_turn tn _ _ (.inr ⟨Nat.le_refl _, by omega⟩)⟩
      · simp only [RelT]
        refine ⟨(xs ++ ys).length, by simp, .inr ⟨b, cap, et, cur.size, by simp, by simp, by simpa using hroom, hcm, ?_, hcs⟩⟩
        rw [tn.step.shape b hlt]; exact hshape
      · rw [h0]
        obtain ⟨t2, ht2⟩ := setCells_heap (et := et) b news (xs.length * es.length) w hheap
        refine ⟨by simp, .inr ⟨b, t2, by simp, ht2, fun q y hq => ?_⟩⟩
        by_cases hqx : q < xs.length
        · rw [List.getElem?_append_left hqx] at hq
          refine tn.row (fun p u h1 h2 hu => ?_) (hrows q y hq)
          rw [World.cell?_setCells_out b _ _ w _ (fun _ _ => .inl ?_)]
          · exact hu
          · have : (q + 1) * es.length ≤ xs.length * es.length := Nat.mul_le_mul_right _ hqx
            rw [Nat.succ_mul] at this
            show p < _
            omega
        · rw [List.getElem?_append_right (by omega)] at hq
          obtain ⟨b', o', hr, hc⟩ := hnr _ y hq
          refine RelRow.move tn.step tn.hown tn.zsub es y b' o' b _ (fun p u hp hu => ?_) hr
          have hn := hc p u hp hu
          obtain ⟨hnlt, hnv⟩ := List.getElem?_eq_some_iff.1 hn
          have := World.cell?_setCells_in b news (xs.length * es.length) w (fun j hj => by
            rw [cell_lt hheap]; simp only [decide_eq_true_eq]; rw [hnl] at hj; omega) _ hnlt
          rw [hnv] at this
          rw [← this]
          congr 2
          have hq' : q = xs.length + (q - xs.length) := by omega
          rw [hq', Nat.add_mul]
          simp only [Nat.add_sub_cancel_left]
          omega
    · have hy : ys ≠ [] := fun h => by subst h; simp at hroom; omega
      obtain ⟨ad, rfl, news, hnl, hnc, hno, hnr⟩ := hnews hy
      obtain ⟨olds, hol, hoc, _⟩ := rows_cells (off := 0) (by simpa using hrows)
      have hrun := run_append_grow (P := P) w t ty et i ei.zero ht hi hiz ⟨b, 0, none⟩ xs.length cap olds (by rw [hol, hes, hisz]) (fun j u hu => by rw [addr_add]; exact hoc j u hu) ad ys.length c news hnl hnc (by omega) (by omega) (growslice_fits (by omega) (by omega))
      have hge := grownCap_ge w (xs.length + ys.length) cap et
      have holds : olds.length = xs.length * es.length := hol
      have hnews' : news.length = ys.length * es.length := by rw [hnl, hisz, hes]
      obtain ⟨β', U', hv, hO', hF⟩ := new_arr hO hid (w1 := w.drew) (.inr rfl) et es (xs ++ ys) (olds.toArray ++ news.toArray ++ Builtin.zeroCells ei.zero.cells (grownCap w (xs.length + ys.length) cap et - (xs.length + ys.length))) (grownCap w (xs.length + ys.length) cap et)
        (by simpa using hge) (grownCap_le_maxLen w _ cap et hmax)
        (by rw [Array.size_append, Array.size_append, size_zeroCells, hz, ← hes]
            simp only [List.size_toArray, hnews', holds]
            rw [← Nat.add_mul, ← Nat.add_mul]; congr 1; omega) h0 hk (fun q y hq => by
          have hqlt : q < (xs ++ ys).length := (List.getElem?_eq_some_iff.1 hq).1
          by_cases hqx : q < xs.length
          · rw [List.getElem?_append_left hqx] at hq
            refine ⟨b, _, hrows q y hq, fun p u hp hu => ?_⟩
            have hlt2 : q * es.length + p < olds.length := by
              rw [holds]
              have : (q + 1) * es.length ≤ xs.length * es.length := Nat.mul_le_mul_right _ hqx
              rw [Nat.succ_mul] at this
              omega
            have := hoc _ _ (List.getElem?_eq_getElem hlt2)
            rw [Nat.zero_add, hu] at this
            rw [Array.append_assoc, Array.getElem?_append_left (by simpa using hlt2)]
            rw [List.getElem?_toArray, List.getElem?_eq_getElem hlt2]
            exact this.symm
          · rw [List.getElem?_append_right (by omega)] at hq
            obtain ⟨b', o', h1, h2⟩ := hnr _ y hq
            refine ⟨b', o', h1, fun p u hp hu => ?_⟩
            have := h2 p u hp hu
            have hlt2 := (List.getElem?_eq_some_iff.1 this).1
            have hidx : q * es.length + p = olds.length + ((q - xs.length) * es.length + p) := by
              have hq' : q = xs.length + (q - xs.length) := by omega
              rw [holds]
              conv => lhs; rw [hq', Nat.add_mul]
              omega
            rw [hidx, Array.append_assoc, Array.getElem?_append_right (by simp), Array.getElem?_append_left (by simpa using hlt2)]
            simpa using this)
      refine ⟨_, _, β', U', hrun, ?_, hO', hF⟩
      simpa using hv

theorem base_of (hO : RelO w Z β U objs) {id : Nat} {et : TypeId} {es : List Leaf} {zs : List (Row es)} (ho : objs id = .arr et es zs) {n k : Nat} (hn : n ≤ zs.length) (hk : k = es.length) {sv : Value}
    (hv : (n = 0 ∧ sv = .slice none 0 0 ∧ β id = none) ∨ ∃ b cap e s, β id = some (b, 0) ∧ sv = .slice (some ⟨b, 0, none⟩) n cap ∧ n ≤ cap ∧ cap ≤ maxLen ∧ w.shape? b = some (e, s) ∧ cap * k = s)
    {objs' : Nat → Obj} (hd : ∀ j, j ≠ id0 → objs' j = if j = id then .dead else objs j) : Base w Z β objs id0 objs' et es (zs.take n) sv := by
  subst hk
  have hl : (zs.take n).length = n := by simp; omega
  rcases hv with ⟨rfl, rfl, _⟩ | ⟨b, cap, e, s, hb, rfl, hc, hm, hsh, hcs⟩
  · exact .inl ⟨rfl, by simp⟩
  · obtain ⟨_, hr⟩ := arrCell hO ho
    rcases hr with ⟨_, h1⟩ | ⟨b', cur, h1, h2, h3⟩
    · rw [hb] at h1; cases h1
    · rw [hb] at h1
      cases h1
      simp only [World.shape?, h2, Option.some.injEq, Prod.mk.injEq] at hsh
      refine .inr ⟨b, cap, cur, by rw [hl], ⟨id, 0, by rw [ho]; rfl, hb⟩, h2, by rw [hl]; exact hc, hm, by rw [hcs, ← hsh.2], fun i x hx => ?_, fun j hj hal q hq => ?_⟩
      · rw [List.getElem?_take] at hx
        split at hx
        · exact h3 i x hx
        · cases hx
      · rw [hd j hj] at hal
        by_cases e : j = id
        · rw [if_pos e] at hal; cases hal
        · rw [if_neg e] at hal
          exact e (hO.inj j id b q 0 hal (by rw [ho]; rfl) hq hb)

theorem append_ok (hT : TOk P T) (hO : RelO w Z β U objs) (hid : U id0 = none) {t ty : TypeId} {s x : TV} {sv v : Value} (hs : RelT w (zz objs β Z) β U s sv) (hx : RelT w (zz objs β Z) β U x v) (h : (evAppend T id0 t s x).Runs objs rd e) :
    Tells P (Builtin.append_ #[t, t] ty #[sv, v]) w Z β U objs id0 e := by
  obtain ⟨ti, ht, h⟩ := runs_ofOpt h
  have hu := (hT t ti ht).1
  cases hd : ti.desc with
  | slice et =>
    rw [hd] at h hu
    obtain ⟨ei, he, h⟩ := runs_ofOpt h
    obtain ⟨hc, h⟩ := runs_need h
    simp only [Bool.and_eq_true, decide_eq_true_eq] at hc
    obtain ⟨⟨hpos, hlv⟩, hzc⟩ := hc
    have hz : ei.zero.cells.size = ei.size := by simpa [zeroCells] using hzc
    -- the end of each way
    have fin : ∀ (kl : List (Nat × Obj)) (xs ys : List (Row ei.lv)), Base w Z β objs id0 (addO (updO objs kl) id0 [.arr et ei.lv (xs ++ ys)]) et ei.lv xs sv → (∀ j, j ≠ id0 → addO (updO objs kl) id0 [.arr et ei.lv (xs ++ ys)] j = objs j ∨ addO (updO objs kl) id0 [.arr et ei.lv (xs ++ ys)] j = .dead) →
        (∃ rd, (srcOf ei.lv x).Runs objs rd ys) → xs.length + ys.length < 1099511627776 / (ei.bytes + 1) → Tells P (Builtin.append_ #[t, t] ty #[sv, v]) w Z β U objs id0 { v := .arrF id0 ei.size, news := [.arr et ei.lv (xs ++ ys)], upds := kl } := by
      intro kl xs ys hb hk ⟨rd, hsrc⟩ hsm
      have h0 : addO (updO objs kl) id0 [.arr et ei.lv (xs ++ ys)] id0 = .arr et ei.lv (xs ++ ys) := by simp [addO]
      obtain ⟨v', w', β', U', h1, h2, h3, h4⟩ := app_main (ty := ty) hT hO hid hu he hlv hpos hz hk h0 hb (src_ok hO hx hsrc) hsm
      rw [hlv] at h2
      exact ⟨v', w', β', U', h1, h2, h3, h4⟩
    have at1 : ∀ (id : Nat) (o : Obj) (j : Nat), j ≠ id0 → addO (updO objs [(id, .dead)]) id0 [o] j = if j = id then .dead else objs j := fun id o j hj => by
      simp [addO, updO, beq_if, hj]
    have at2 : ∀ (id : Nat) (o : Obj) (j : Nat), j ≠ id0 → addO (updO objs [(id, .dead)]) id0 [o] j = objs j ∨ addO (updO objs [(id, .dead)]) id0 [o] j = .dead := fun id o j hj => by
      rw [at1 id o j hj]; split <;> simp
    cases s with
    | nil =>
      obtain ⟨_, _, ys, hsrc, h, _⟩ := Prog.runs_bind _ _ h
      obtain ⟨hsm, h⟩ := runs_need h
      obtain ⟨rfl, _⟩ := h
      simp only [RelT] at hs
      have := fin [] [] ys (.inl ⟨hs, rfl⟩) (fun j hj => .inl (by simp [addO, updO, beq_if, hj])) ⟨_, hsrc⟩ (by simpa using hsm)
      simpa using this
    | arr id k n =>
      simp only [RelT] at hs
      obtain ⟨⟨L, hL, hn⟩, hv⟩ := hs
      obtain ⟨rd', _, h⟩ := h
      cases ho : objs id with
      | dead => rw [ho] at h; exact h.elim
      | box _ => rw [ho] at h; exact h.elim
      | arr et' es' zs =>
        rw [ho] at h
        obtain ⟨hcc, h⟩ := runs_need h
        obtain ⟨xs', hcast, h⟩ := runs_ofOpt h
        obtain ⟨_, _, ys, hsrc, h, _⟩ := Prog.runs_bind _ _ h
        obtain ⟨hsm, h⟩ := runs_need h
        obtain ⟨rfl, _⟩ := h
        simp only [Bool.and_eq_true, decide_eq_true_eq, beq_iff_eq] at hcc
        obtain ⟨rfl, rfl⟩ := hcc
        obtain ⟨heq, hq⟩ := rowCast_ok hcast
        subst heq
        cases hq
        have hu' := (arrCell hO ho).1
        rw [hL] at hu'
        cases hu'
        refine fin [(id, .dead)] _ ys (base_of hO ho hn hlv.symm hv (fun j hj => at1 _ _ j hj)) (fun j hj => at2 _ _ j hj) ⟨_, hsrc⟩ ?_
        have : (zs.take n).length = n := by simp; omega
        rw [this]; simpa using hsm
    | arrF id k =>
      simp only [RelT] at hs
      obtain ⟨L, hL, hv⟩ := hs
      obtain ⟨rd', _, h⟩ := h
      cases ho : objs id with
      | dead => rw [ho] at h; exact h.elim
      | box _ => rw [ho] at h; exact h.elim
      | arr et' es' zs =>
        rw [ho] at h
        obtain ⟨hcc, h⟩ := runs_need h
        obtain ⟨xs', hcast, h⟩ := runs_ofOpt h
        obtain ⟨_, _, ys, hsrc, h, _⟩ := Prog.runs_bind _ _ h
        obtain ⟨hsm, h⟩ := runs_need h
        obtain ⟨rfl, _⟩ := h
        simp only [Bool.and_eq_true, decide_eq_true_eq, beq_iff_eq] at hcc
        obtain ⟨rfl, rfl⟩ := hcc
        obtain ⟨heq, hq⟩ := rowCast_ok hcast
        subst heq
        cases hq
        have hu' := (arrCell hO ho).1
        rw [hL] at hu'
        cases hu'
        have hb := base_of (id0 := id0) hO ho (Nat.le_refl _) hlv.symm hv (fun j hj => at1 id (.arr et ei.lv (zs ++ ys)) j hj)
        rw [List.take_length] at hb
        exact fin [(id, .dead)] _ ys hb (fun j hj => at2 _ _ j hj) ⟨_, hsrc⟩ (by simpa using hsm)
    | _ => exact h.elim
  | _ => rw [hd] at h; exact h.elim
end
end Go.Te
set_option linter.unusedVariables false
set_option linter.unusedSimpArgs false
namespace Go.Te
open Go.RowKit

/-! ### 26. Cuts -/
section
variable {P : Program} {T : Nat → Option TI} {w : World} {Z : Nat → Prop} {β : Beta} {U : Nat → Option Nat} {objs : Nat → Obj} {id0 : Nat} {rd : List Nat} {e : Eff}

/-- An operand that may be left out. -/
def RelOpt (w : World) (Z : Nat → Prop) (β : Beta) (U : Nat → Option Nat) : Option TV → Option Value → Prop
  | none, none => True
  | some x, some v => RelT w Z β U x v
  | _, _ => False

theorem cut_ok {lo hi : Option TV} {lov hiv : Option Value} {len cap : Nat} (hlo : RelOpt w Z β U lo lov) (hhi : RelOpt w Z β U hi hiv) (hc : len ≤ cap) {c : Nat × Nat} (h : (cutAt lo hi len).Runs objs rd c) (isS : Bool) :
    (Instr.sliceBounds isS len cap lov hiv none).run P w = .ok (c.1, c.2, cap) w ∧ c.1 ≤ c.2 ∧ c.2 ≤ len ∧ (lo = none → c.1 = 0) := by
  obtain ⟨_, _, hh, h1, h, _⟩ := Prog.runs_bind _ _ h
  obtain ⟨_, _, l, h2, h, _⟩ := Prog.runs_bind _ _ h
  obtain ⟨rfl, _⟩ := h
  have key1 : hh ≤ len ∧ ((match hiv with | some v => Instr.sliceBound v cap (if isS then .sliceAcap else .sliceAlen) | none => pure len).run P w : Result Nat) = .ok hh w := by
    cases hi with
    | none =>
      cases hiv with
      | some _ => exact hhi.elim
      | none => obtain ⟨rfl, _⟩ := h1; exact ⟨Nat.le_refl _, rfl⟩
    | some x =>
      cases hiv with
      | none => exact hhi.elim
      | some v =>
        obtain ⟨n, hn, h1⟩ := runs_ofOpt h1
        obtain ⟨h0, h1⟩ := runs_need h1
        obtain ⟨h3, h1⟩ := runs_need h1
        obtain ⟨rfl, _⟩ := h1
        have := asI_ok hhi hn
        subst this
        simp only [decide_eq_true_eq] at h0 h3
        exact ⟨h3, run_sliceBound w n.1 n.2 cap _ h0 (by omega)⟩
  have key2 : l ≤ hh ∧ ((match lov with | some v => Instr.sliceBound v hh .sliceB | none => pure 0).run P w : Result Nat) = .ok l w ∧ (lo = none → l = 0) := by
    cases lo with
    | none =>
      cases lov with
      | some _ => exact hlo.elim
      | none => obtain ⟨rfl, _⟩ := h2; exact ⟨Nat.zero_le _, rfl, fun _ => rfl⟩
    | some x =>
      cases lov with
      | none => exact hlo.elim
      | some v =>
        obtain ⟨n, hn, h2⟩ := runs_ofOpt h2
        obtain ⟨h0, h2⟩ := runs_need h2
        obtain ⟨h3, h2⟩ := runs_need h2
        obtain ⟨rfl, _⟩ := h2
        have := asI_ok hlo hn
        subst this
        simp only [decide_eq_true_eq] at h0 h3
        exact ⟨h3, run_sliceBound w n.1 n.2 hh _ h0 (by omega), fun h => by cases h⟩
  refine ⟨?_, key2.1, key1.1, key2.2.2⟩
  obtain ⟨_, k1⟩ := key1
  obtain ⟨_, k2, _⟩ := key2
  cases hiv with
  | none =>
    simp only [Sem.run_pure, Result.ok.injEq, and_true] at k1
    subst k1
    cases lov with
    | none =>
      simp only [Sem.run_pure, Result.ok.injEq, and_true] at k2
      subst k2
      simp [Instr.sliceBounds]
    | some v => simp [Instr.sliceBounds, k2]
  | some u =>
    cases lov with
    | none =>
      simp only [Sem.run_pure, Result.ok.injEq, and_true] at k2
      subst k2
      cases isS <;> simp_all [Instr.sliceBounds]
    | some v => cases isS <;> simp_all [Instr.sliceBounds]

theorem slice_run (hT : TOk P T) {t et : TypeId} {ei : TI} (ht : P.underlying t = some (.slice et)) (he : T et = some ei) {a : Option Addr} {len cap l h : Nat} {lov hiv : Option Value} (hb : (Instr.sliceBounds true len cap lov hiv none).run P w = .ok (l, h, cap) w) :
    (Instr.sliceAt t (.slice a len cap) lov hiv none).run P w = .ok (.slice (if cap = l then a else a.map (·.add (l * ei.size))) (h - l) (cap - l)) w := by
  simp [Instr.sliceAt, Instr.slice, run_underlying ht, hb, sizeOf_run hT he]

theorem data_cut {es : List Leaf} {xs : List (Row es)} {a : Option Addr} {len cap l h : Nat} (hx : RelL w Z (.sl es) xs (.slice a len cap)) (h1 : l ≤ h) (h2 : h ≤ len) :
    RelL w Z (.sl es) ((xs.take h).drop l) (.slice (if cap = l then a else a.map (·.add (l * es.length))) (h - l) (cap - l)) := by
  simp only [RelL, lst] at hx ⊢
  obtain ⟨a', cap', hv, hc, hr⟩ := hx
  cases hv
  have hl : ((xs.take h).drop l).length = h - l := by simp; omega
  refine ⟨_, _, by rw [hl], by rw [hl]; omega, fun hne => ?_⟩
  have hlt : l < h := by
    rcases Nat.lt_or_ge l h with q | q
    · exact q
    · exact absurd (List.eq_nil_of_length_eq_zero (by rw [hl]; omega)) hne
  obtain ⟨b, off, rfl, hz, hb, hrow⟩ := hr (fun q => by rw [q] at h2; simp at h2; omega)
  have hcl : cap ≠ l := by omega
  refine ⟨b, off + l * es.length, by rw [if_neg hcl]; simp [addr_add], hz, hb, fun i x hi => ?_⟩
  rw [List.getElem?_drop, List.getElem?_take] at hi
  split at hi
  · have := hrow _ x hi
    rwa [Nat.add_mul, ← Nat.add_assoc] at this
  · cases hi

theorem relL_slice {es : List Leaf} {xs : List (Row es)} {v : Value} (hx : RelL w Z (.sl es) xs v) : ∃ a cap, v = .slice a xs.length cap ∧ xs.length ≤ cap := by
  simp only [RelL, lst] at hx
  obtain ⟨a', cap', hv, hc, hr⟩ := hx
  exact ⟨a', cap', hv, hc⟩

theorem slice_ok (hT : TOk P T) (hO : RelO w Z β U objs) {t : TypeId} {x : TV} {lo hi mx : Option TV} {v : Value} {lov hiv mxv : Option Value} (hx : RelT w (zz objs β Z) β U x v) (hlo : RelOpt w (zz objs β Z) β U lo lov) (hhi : RelOpt w (zz objs β Z) β U hi hiv) (hmx : RelOpt w (zz objs β Z) β U mx mxv)
    (h : (evSlice T t x lo hi mx).Runs objs rd e) : Tells P (Instr.sliceAt t v lov hiv mxv) w Z β U objs id0 e := by
  cases mx with
  | some _ => exact h.elim
  | none =>
  cases mxv with
  | some _ => exact hmx.elim
  | none =>
  obtain ⟨ti, ht, h⟩ := runs_ofOpt h
  have hu := (hT t ti ht).1
  -- an array that is cut from below
  have froz : ∀ {id : Nat} {et' : TypeId} {es : List Leaf} {xs : List (Row es)} {et : TypeId} {ei : TI} {n : Nat} {k : Nat} {c : Nat × Nat}, objs id = .arr et' es xs → n ≤ xs.length → P.underlying t = some (.slice et) → T et = some ei → ei.size = k → k = es.length →
      ((n = 0 ∧ v = .slice none 0 0 ∧ β id = none) ∨ ∃ b cap e s, β id = some (b, 0) ∧ v = .slice (some ⟨b, 0, none⟩) n cap ∧ n ≤ cap ∧ cap ≤ maxLen ∧ w.shape? b = some (e, s) ∧ cap * k = s) → (∃ rd, (cutAt lo hi n).Runs objs rd c) →
      Tells P (Instr.sliceAt t v lov hiv none) w Z β U objs id0 { v := .d (.sl es) ((xs.take c.2).drop c.1), upds := [(id, .dead)] } := by
    intro id et' es xs et ei n k c ho hn hut he hk hkk hv ⟨rd, hcut⟩
    subst hk
    have hkil : Killed objs (updO objs [(id, .dead)]) [id] := killed_kill objs [id]
    have hd := arr_data hO hkil ho (by simp) n hn hv
    obtain ⟨a, cap, rfl, hcap⟩ := relL_slice hd
    have hl : (xs.take n).length = n := by simp; omega
    rw [hl] at hcap
    obtain ⟨hb, h1, h2, _⟩ := cut_ok (P := P) hlo hhi hcap hcut true
    have hrun := slice_run hT hut he (a := a) hb
    rw [hl] at hd ⊢
    have hd2 := data_cut hd h1 h2
    rw [List.take_take, Nat.min_eq_left h2, ← hkk] at hd2
    exact ⟨_, w, β, U, hrun, hd2, hO.kill hkil.each, Fit.kill _ _ hkil.each⟩
  have kept : ∀ {id : Nat} {et : TypeId} {ei : TI} {n L : Nat} {k : Nat} {c : Nat × Nat}, U id = some L → n ≤ L → P.underlying t = some (.slice et) → T et = some ei → lo = none →
      ((n = 0 ∧ v = .slice none 0 0 ∧ β id = none) ∨ ∃ b cap e s, β id = some (b, 0) ∧ v = .slice (some ⟨b, 0, none⟩) n cap ∧ n ≤ cap ∧ cap ≤ maxLen ∧ w.shape? b = some (e, s) ∧ cap * k = s) → (∃ rd, (cutAt lo hi n).Runs objs rd c) →
      Tells P (Instr.sliceAt t v lov hiv none) w Z β U objs id0 { v := .arr id k c.2 } := by
    intro id et ei n L k c hL hn hut he hl0 hv ⟨rd, hcut⟩
    rcases hv with ⟨rfl, rfl, hβ⟩ | ⟨b, cap, e', s, hβ, rfl, hc, hm, hsh, hcs⟩
    · obtain ⟨hb, h1, h2, h3⟩ := cut_ok (P := P) hlo hhi (Nat.le_refl 0) hcut true
      have hrun := slice_run hT hut he (a := none) hb
      have hc2 : c.2 = 0 := by omega
      have hc1 : c.1 = 0 := h3 hl0
      rw [hc1, hc2] at hrun
      refine tells_quiet hO hrun ?_
      simp only [RelT]
      exact ⟨⟨L, hL, by omega⟩, .inl ⟨hc2, by simp, hβ⟩⟩
    · obtain ⟨hb, h1, h2, h3⟩ := cut_ok (P := P) hlo hhi hc hcut true
      have hrun := slice_run hT hut he (a := some ⟨b, 0, none⟩) hb
      have hc1 : c.1 = 0 := h3 hl0
      rw [hc1] at hrun
      refine tells_quiet hO hrun ?_
      simp only [RelT]
      refine ⟨⟨L, hL, by omega⟩, .inr ⟨b, cap, e', s, hβ, ?_, by omega, hm, hsh, hcs⟩⟩
      simp [addr_add]
  cases hd : ti.desc with
  | string =>
    rw [hd] at h hu
    cases x with
    | d l y =>
      cases l with
      | str =>
        simp only [RelT, RelL] at hx
        subst hx
        obtain ⟨_, _, c, hcut, h, _⟩ := Prog.runs_bind _ _ h
        obtain ⟨rfl, _⟩ := h
        obtain ⟨hb, h1, h2, _⟩ := cut_ok (P := P) hlo hhi (Nat.le_refl (sV y).size) hcut false
        refine tells_quiet hO (v := .string (y.extract c.1 c.2)) ?_ (by simp only [RelT, RelL, sV])
        simp [Instr.sliceAt, Instr.slice, run_underlying hu]
        simp only [sV] at hb
        simp [hb]
      | _ => exact h.elim
    | _ => exact h.elim
  | slice et =>
    rw [hd] at h hu
    cases x with
    | d l xs =>
      cases l with
      | sl es =>
        obtain ⟨ei, he, h⟩ := runs_ofOpt h
        obtain ⟨hk, h⟩ := runs_need h
        obtain ⟨_, _, c, hcut, h, _⟩ := Prog.runs_bind _ _ h
        obtain ⟨rfl, _⟩ := h
        simp only [decide_eq_true_eq] at hk
        simp only [RelT] at hx
        obtain ⟨a, cap, rfl, hcap⟩ := relL_slice hx
        obtain ⟨hb, h1, h2, _⟩ := cut_ok (P := P) hlo hhi hcap hcut true
        have hrun := slice_run hT hu he (a := a) hb
        have hd2 := data_cut hx h1 h2
        rw [← hk] at hd2
        exact tells_quiet hO hrun hd2
      | _ => exact h.elim
    | arr id k n =>
      obtain ⟨ei, he, h⟩ := runs_ofOpt h
      obtain ⟨hk, h⟩ := runs_need h
      obtain ⟨_, _, c, hcut, h, _⟩ := Prog.runs_bind _ _ h
      simp only [decide_eq_true_eq] at hk
      simp only [RelT] at hx
      obtain ⟨⟨L, hL, hn⟩, hv⟩ := hx
      cases lo with
      | none =>
        obtain ⟨rfl, _⟩ := h
        exact kept hL hn hu he rfl hv ⟨_, hcut⟩
      | some lx =>
        obtain ⟨rd', _, h⟩ := h
        cases ho : objs id with
        | dead => rw [ho] at h; exact h.elim
        | box _ => rw [ho] at h; exact h.elim
        | arr et' es xs =>
          rw [ho] at h
          obtain ⟨hk2, h⟩ := runs_need h
          obtain ⟨rfl, _⟩ := h
          simp only [decide_eq_true_eq] at hk2
          have hu' := (arrCell hO ho).1
          rw [hL] at hu'
          cases hu'
          exact froz ho hn hu he hk hk2 hv ⟨_, hcut⟩
    | arrF id k =>
      obtain ⟨ei, he, h⟩ := runs_ofOpt h
      obtain ⟨hk, h⟩ := runs_need h
      obtain ⟨rd', _, h⟩ := h
      simp only [decide_eq_true_eq] at hk
      simp only [RelT] at hx
      obtain ⟨L, hL, hv⟩ := hx
      cases ho : objs id with
      | dead => rw [ho] at h; exact h.elim
      | box _ => rw [ho] at h; exact h.elim
      | arr et' es xs =>
        rw [ho] at h
        obtain ⟨_, _, c, hcut, h, _⟩ := Prog.runs_bind _ _ h
        have hu' := (arrCell hO ho).1
        rw [hL] at hu'
        cases hu'
        cases lo with
        | none =>
          obtain ⟨rfl, _⟩ := h
          exact kept hL (Nat.le_refl _) hu he rfl hv ⟨_, hcut⟩
        | some lx =>
          obtain ⟨hk2, h⟩ := runs_need h
          obtain ⟨rfl, _⟩ := h
          simp only [decide_eq_true_eq] at hk2
          exact froz ho (Nat.le_refl _) hu he hk hk2 hv ⟨_, hcut⟩
    | nil =>
      obtain ⟨ei, he, h⟩ := runs_ofOpt h
      obtain ⟨_, _, c, hcut, h, _⟩ := Prog.runs_bind _ _ h
      obtain ⟨rfl, _⟩ := h
      simp only [RelT] at hx
      subst hx
      obtain ⟨hb, h1, h2, _⟩ := cut_ok (P := P) hlo hhi (Nat.le_refl 0) hcut true
      have hc2 : c.2 = 0 := by omega
      have hc1 : c.1 = 0 := by omega
      rw [hc1, hc2] at hb
      refine tells_quiet hO (v := .slice none 0 0) ?_ (by simp only [RelT])
      simp [slice_run hT hu he (a := none) hb]
    | _ => exact h.elim
  | _ => rw [hd] at h; cases x <;> exact h.elim
end
end Go.Te
set_option linter.unusedVariables false
set_option linter.unusedSimpArgs false
namespace Go.Te
open Go.RowKit

/-! ### 27. Structs and arrays that are written down -/
section
variable {P : Program} {T : Nat → Option TI} {w : World} {Z : Nat → Prop} {β : Beta} {U : Nat → Option Nat} {objs : Nat → Obj} {id0 : Nat} {rd : List Nat} {e : Eff}

theorem setAll (off : Nat) : ∀ (vs : List Value) (k : Nat) (cells : Array Value), off + k + vs.length ≤ cells.size →
    ((vs.zipIdx k).foldl (fun (cs : Array Value) (p : Value × Nat) => cs.setIfInBounds (off + p.2) p.1) cells).toList = cells.toList.take (off + k) ++ vs ++ cells.toList.drop (off + k + vs.length)
  | [], k, cells, _ => by simp
  | v :: vs, k, cells, h => by
    simp only [List.length_cons] at h
    rw [List.zipIdx_cons, List.foldl_cons, setAll off vs (k + 1) _ (by simp; omega)]
    have hlt : off + k < cells.toList.length := by simp; omega
    simp only [Array.toList_setIfInBounds, List.length_cons]
    rw [show off + (k + 1) = off + k + 1 by omega, List.take_set, List.drop_set_of_lt (by omega)]
    have h1 : (cells.toList.take (off + k + 1)).set (off + k) v = cells.toList.take (off + k) ++ [v] := by
      rw [List.set_eq_take_append_cons_drop]
      simp [List.take_take]
      omega
    rw [h1, show off + k + 1 + vs.length = off + k + (vs.length + 1) by omega]
    simp

def RelParts (w : World) (Z : Nat → Prop) (β : Beta) (U : Nat → Option Nat) : List (Nat × TV) → List (Nat × Value) → Prop
  | [], q => q = []
  | p :: ps, q => ∃ v qs, q = (p.1, v) :: qs ∧ RelT w Z β U p.2 v ∧ RelParts w Z β U ps qs

theorem fillT_ok (place : Nat → Option (Nat × Nat)) : ∀ (ps : List (Nat × TV)) (qs : List (Nat × Value)) (cells : List TV) (vals : Array Value) (r : List TV), RelParts w Z β U ps qs → RelTs w Z β U cells vals.toList → fillT place cells ps = some r →
    ∃ us, Instr.fill place vals qs = some us ∧ RelTs w Z β U r us.toList
  | [], qs, cells, vals, r, hp, hc, h => by
    simp only [RelParts] at hp
    subst hp
    simp only [fillT, Option.some.injEq] at h
    subst h
    exact ⟨vals, rfl, hc⟩
  | (i, x) :: ps, qs, cells, vals, r, hp, hc, h => by
    obtain ⟨v, qs', rfl, hx, hps⟩ := hp
    simp only [fillT] at h
    split at h
    · rename_i off size cs hpl hcs
      have hrel := cellsT_rel hx hcs
      have hlen := relTs_len hrel
      have hlc := relTs_len hc
      cases hcond : (decide (cs.length = size) && decide (off + cs.length ≤ cells.length)) with
      | false => rw [hcond] at h; cases h
      | true =>
        rw [hcond] at h
        simp only [cond_true] at h
        simp only [Bool.and_eq_true, decide_eq_true_eq] at hcond
        have hsz : v.cells.size = cs.length := by simpa using hlen.symm
        have hvs : vals.size = cells.length := by simpa using hlc.symm
        have hstep : (v.cells.zipIdx.foldl (fun (cs : Array Value) (p : Value × Nat) => cs.setIfInBounds (off + p.2) p.1) vals).toList = vals.toList.take off ++ v.cells.toList ++ vals.toList.drop (off + cs.length) := by
          rw [← Array.foldl_toList, Array.toList_zipIdx]
          have := setAll off v.cells.toList 0 vals (by simp [hsz, hvs]; omega)
          simpa [hsz] using this
        obtain ⟨us, h1, h2⟩ := fillT_ok place ps qs' _ (v.cells.zipIdx.foldl (fun (cs : Array Value) (p : Value × Nat) => cs.setIfInBounds (off + p.2) p.1) vals) r hps
          (by rw [hstep]; exact relTs_append (relTs_append (relTs_take hc off) hrel) (relTs_drop hc _)) h
        refine ⟨us, ?_, h2⟩
        simp only [Instr.fill]
        rw [hpl]
        simp only []
        have hg : ¬ (off + cs.length > cells.length) := by omega
        simp only [hsz, hvs, hcond.1, ne_eq, not_true, decide_false, Bool.false_or]
        rw [if_neg (by simp; omega)]
        exact h1
    · cases h

theorem places_ok (hT : TOk P T) : ∀ (fs : List Field), (∀ f ∈ fs, (T f.type).isSome = true) →
    ∃ pl : List (Nat × Nat), fs.mapM (fun f => (P.info? f.type).map fun i => (f.offset, i.size)) = some pl ∧ ∀ i : Nat, pl[i]? = (fs[i]?).bind fun f => (T f.type).bind fun fi => some (f.offset, fi.size)
  | [], _ => ⟨[], rfl, fun i => by simp⟩
  | f :: fs, h => by
    obtain ⟨pl, h1, h2⟩ := places_ok hT fs fun g hg => h g (by simp [hg])
    obtain ⟨fi, hf⟩ := Option.isSome_iff_exists.1 (h f (by simp))
    obtain ⟨_, i, hi, ⟨hs, _, _⟩, _⟩ := hT _ fi hf
    refine ⟨(f.offset, fi.size) :: pl, by simp [h1, hi, hs], fun j => ?_⟩
    cases j with
    | zero => simp [hf]
    | succ j => simpa using h2 j

theorem build_ok (hT : TOk P T) (hO : RelO w Z β U objs) {t : TypeId} {ps : List (Nat × TV)} {qs : Array (Nat × Value)} (hp : RelParts w (zz objs β Z) β U ps qs.toList) (h : (evBuild T t ps).Runs objs rd e) :
    Tells P (Instr.build t qs) w Z β U objs id0 e := by
  obtain ⟨ti, ht, h⟩ := runs_ofOpt h
  obtain ⟨hu, i, hi, ⟨hisz, _, hiz⟩, _⟩ := hT t ti ht
  have hz : RelTs w (zz objs β Z) β U (zeroCells ti) ti.zero.cells.toList := tvOf_rels _
  cases hd : ti.desc with
  | struct fs =>
    rw [hd] at h hu
    obtain ⟨hall, h⟩ := runs_need h
    obtain ⟨cs, hcs, h⟩ := runs_ofOpt h
    obtain ⟨rfl, _⟩ := h
    simp only [Array.all_eq_true] at hall
    obtain ⟨pl, h1, h2⟩ := places_ok hT fs.toList fun f hf => by
      obtain ⟨j, hj, rfl⟩ := List.getElem_of_mem hf
      simpa using hall j (by simpa using hj)
    have hpl : (pl.toArray[·]?) = places T fs := by
      funext j
      simp [places, h2 j]
    obtain ⟨us, h3, h4⟩ := fillT_ok _ ps qs.toList _ ti.zero.cells cs hp hz hcs
    have hb : P.built t qs.toList = some us := by
      simp only [Program.built, hi, hu, hiz, h1]
      rw [hpl]; exact h3
    exact tells_quiet hO (run_build w t qs us hb) (by simp only [RelT]; exact ⟨us, rfl, h4⟩)
  | array len et =>
    rw [hd] at h hu
    obtain ⟨ei, he, h⟩ := runs_ofOpt h
    obtain ⟨cs, hcs, h⟩ := runs_ofOpt h
    obtain ⟨rfl, _⟩ := h
    obtain ⟨_, i', hi', ⟨hisz', _, _⟩, _⟩ := hT et ei he
    obtain ⟨us, h3, h4⟩ := fillT_ok _ ps qs.toList _ ti.zero.cells cs hp hz hcs
    have hb : P.built t qs.toList = some us := by
      simp only [Program.built, hi, hu, hiz, hi', hisz']
      exact h3
    exact tells_quiet hO (run_build w t qs us hb) (by simp only [RelT]; exact ⟨us, rfl, h4⟩)
  | _ => rw [hd] at h; exact h.elim

/-- A new array whose rows are told by its cells. -/
theorem new_arr2 (hO : RelO w Z β U objs) (hid : U id0 = none) (et : TypeId) (es : List Leaf) (xs : List (Row es)) (cs : Array Value) (cap : Nat) (hcap : xs.length ≤ cap) (hmax : cap ≤ maxLen) (hsz : cs.size = cap * es.length)
    {objs' : Nat → Obj} (h0 : objs' id0 = .arr et es xs) (hk : ∀ j, j ≠ id0 → objs' j = objs j ∨ objs' j = .dead)
    (hr : ∀ (w' : World) (Z' : Nat → Prop), (∀ l x u, RelL w (zz objs β Z) l x u → RelL w' Z' l x u) → (∀ (j : Nat) u, cs[j]? = some u → w'.cell? ⟨w.heap.size, j, none⟩ = some u) → ∀ (i : Nat) x, xs[i]? = some x → RelRow w' Z' es x w.heap.size (i * es.length)) :
    ∃ β' U', RelT (w.alloc (.cells cs et)) (zz objs' β' Z) β' U' (.arrF id0 es.length) (.slice (some ⟨w.heap.size, 0, none⟩) xs.length cap) ∧ RelO (w.alloc (.cells cs et)) Z β' U' objs' ∧ Fit w β U objs (w.alloc (.cells cs et)) β' U' objs' id0 (id0 + 32) := by
  have tn := turn_new hO hid cs et xs.length objs' hk
  have hheap : (w.alloc (.cells cs et)).heap[w.heap.size]? = some (.cells cs et (0, 0)) := by
    show (w.heap.push _)[w.heap.size]? = _
    simp
  refine ⟨_, _, ?_, tn.relO ?_, fit_turn tn _ _ (.inr ⟨Nat.le_refl _, by omega⟩)⟩
  · simp only [RelT]
    exact ⟨xs.length, by simp, .inr ⟨w.heap.size, cap, et, cs.size, by simp, rfl, hcap, hmax, by simp only [World.shape?, hheap], hsz.symm⟩⟩
  · rw [h0]
    refine ⟨by simp, .inr ⟨w.heap.size, cs, by simp, hheap, fun i x hx => hr _ _ (fun l x u h => RelL.step tn.step tn.hown tn.zsub l x u h) (fun j u hj => ?_) i x hx⟩⟩
    simp only [World.cell?, hheap]
    exact hj

theorem rep_at {α : Type} (l : List α) : ∀ (n j : Nat), j < n * l.length → ((List.replicate n l).flatten)[j]? = l[j % l.length]?
  | 0, j, h => by simp at h
  | n + 1, j, h => by
    rw [List.replicate_succ, List.flatten_cons]
    by_cases hj : j < l.length
    · rw [List.getElem?_append_left hj, Nat.mod_eq_of_lt hj]
    · rw [List.getElem?_append_right (by omega), rep_at l n _ (by rw [Nat.succ_mul] at h; omega), ← Nat.mod_eq_sub_mod (by omega)]

theorem made_at (z : Array Value) (n j : Nat) (h : j < n * z.size) : (madeCells z (n * z.size)).toList[j]? = z.toList[j % z.size]? := by
  have hp : 0 < z.size := by
    rcases Nat.eq_zero_or_pos z.size with e | e
    · rw [e] at h; omega
    · exact e
  have hm : j % z.size < z.size := Nat.mod_lt _ hp
  simp [madeCells, h, hm, getElem!_pos]

theorem buildSlice_ok (hT : TOk P T) (hO : RelO w Z β U objs) (hid : U id0 = none) {t : TypeId} {len : Nat} {ps : List (Nat × TV)} {qs : Array (Nat × Value)} (hp : RelParts w (zz objs β Z) β U ps qs.toList) (h : (evBuildSlice T id0 t len ps).Runs objs rd e) :
    Tells P (Instr.buildSlice t len qs) w Z β U objs id0 e := by
  obtain ⟨ti, ht, h⟩ := runs_ofOpt h
  have hu := (hT t ti ht).1
  cases hd : ti.desc with
  | slice et =>
    rw [hd] at h hu
    obtain ⟨ei, he, h⟩ := runs_ofOpt h
    obtain ⟨hn, h⟩ := runs_need h
    obtain ⟨cs, hcs, h⟩ := runs_ofOpt h
    obtain ⟨_, _, r, hr, h, _⟩ := Prog.runs_bind _ _ h
    obtain ⟨xs, hxs, h⟩ := runs_ofOpt h
    obtain ⟨rfl, _⟩ := h
    simp only [Bool.and_eq_true, decide_eq_true_eq] at hn
    obtain ⟨⟨⟨hbig, hpos⟩, hlv⟩, hzl⟩ := hn
    obtain ⟨_, i, hi, ⟨hisz, hiby, hiz⟩, _⟩ := hT et ei he
    have hzsz : ei.zero.cells.size = ei.size := by simpa [zeroCells] using hzl
    have hbase : RelTs w (zz objs β Z) β U (List.replicate len (zeroCells ei)).flatten (madeCells ei.zero.cells (len * ei.size)).toList := by
      refine relTs_of (by simp [size_madeCells, hzl]) fun j x v hx hv => ?_
      have hj : j < len * ei.size := by
        have := (List.getElem?_eq_some_iff.1 hv).1
        simpa [size_madeCells] using this
      rw [rep_at _ _ _ (by rw [hzl]; exact hj), hzl] at hx
      rw [← hzsz, made_at _ _ _ (by rw [hzsz]; exact hj), hzsz] at hv
      simp only [zeroCells, List.getElem?_map, hv, Option.map_some, Option.some.injEq] at hx
      subst hx
      exact tvOf_rel v
    obtain ⟨us, h3, h4⟩ := fillT_ok _ ps qs.toList _ (madeCells ei.zero.cells (len * ei.size)) cs hp hbase hcs
    have hrun : (Instr.buildSlice t len qs).run P w = .ok (.slice (some ⟨w.heap.size, 0, none⟩) len len) (w.alloc (.cells us et)) := by
      have hb' : ¬ (16777216 < len * ei.size) := by omega
      by_cases h0 : len * ei.size = 0
      · rw [h0] at h3
        have h3' : Instr.fill (fun i => some (i * ei.size, ei.size)) #[] qs.toList = some us := by rw [← h3]; simp [madeCells, Array.range_zero']
        simp only [madeCells, Array.range_zero', Array.map_empty] at h3
        simp [Instr.buildSlice, run_underlying hu, sizeOf, typeInfo, zeroValue, hi, hisz, hiz, h0, h3', newRow, Array.range_zero']
      · simp only [madeCells] at h3
        simp [Instr.buildSlice, run_underlying hu, sizeOf, typeInfo, zeroValue, hi, hisz, hiz, h0, hb', h3, newRow]
    have hk := killed_kill objs r.2
    obtain ⟨hlr, hrv⟩ := toLeaves_ok hO h4 hr hk
    have hOK := hO.kill hk.each
    obtain ⟨hxl, hal, _⟩ := rowsOf_rel (w := w) (Z := Z) _ _ _ _ hxs
    have hlen64 : len ≤ maxLen := by
      have : len * 1 ≤ len * ei.size := Nat.mul_le_mul_left _ hpos
      simp only [maxLen]; omega
    have husz : us.size = len * ei.size := by
      have : r.1.length = us.toList.length := hlr
      simp only [Array.length_toList] at this
      rw [← this, hal, hlv]
    have hobj : ∀ j, j ≠ id0 → addO (updO objs (kill r.2)) id0 [Obj.arr et ei.lv xs] j = updO objs (kill r.2) j ∨ addO (updO objs (kill r.2)) id0 [Obj.arr et ei.lv xs] j = .dead := fun j hj => .inl (by simp [addO, beq_if, hj])
    obtain ⟨β', U', h5, h6, h7⟩ := new_arr2 hOK hid et ei.lv xs us len (by omega) hlen64 (by rw [husz, hlv]) (objs' := addO (updO objs (kill r.2)) id0 [Obj.arr et ei.lv xs]) (by simp [addO, beq_if]) hobj
      (fun w' Z' hmove hcell i x hx => by
        obtain ⟨_, _, hrel⟩ := rowsOf_rel (w := w') (Z := Z') _ _ _ _ hxs
        have := hrel w.heap.size 0 (fun j a ha => by
          obtain ⟨u, hu, hrl⟩ := hrv j a ha
          exact ⟨u, by rw [Nat.zero_add]; exact hcell j u (by simpa using hu), hmove _ _ _ hrl⟩) i x hx
        simpa using this)
    rw [hlv, hxl] at h5
    exact ⟨_, _, β', U', hrun, h5, h6, (Fit.kill id0 (id0 + 32) hk.each).trans h7⟩
  | _ => rw [hd] at h; exact h.elim

theorem zgo_ok : ∀ (ls : List Leaf) (ts : List TV) (as : List LV) (vs : List Value), zeroRow.go ls ts = some as → RelTs w Z β U ts vs → as.length = vs.length ∧ ∀ (p : Nat) a, as[p]? = some a → ∃ u, vs[p]? = some u ∧ RelL w Z a.l a.x u := by
  intro ls ts
  induction ts generalizing ls with
  | nil =>
    intro as vs h hr
    simp only [RelTs] at hr
    subst hr
    cases ls with
    | nil => simp only [zeroRow.go, Option.some.injEq] at h; subst h; simp
    | cons l ls => cases l <;> simp [zeroRow.go] at h
  | cons t ts ih =>
    intro as vs h hr
    simp only [RelTs] at hr
    obtain ⟨v, vs', rfl, hv, hvs⟩ := hr
    cases ls with
    | nil => simp [zeroRow.go] at h
    | cons l ls =>
      have fin : ∀ (a : LV), (zeroRow.go ls ts).map (fun r => a :: r) = some as → RelL w Z a.l a.x v → as.length = (v :: vs').length ∧ ∀ (p : Nat) a, as[p]? = some a → ∃ u, (v :: vs')[p]? = some u ∧ RelL w Z a.l a.x u := by
        intro a hm ha
        obtain ⟨r, hr, rfl⟩ := Option.map_eq_some_iff.1 hm
        obtain ⟨h1, h2⟩ := ih ls r vs' hr hvs
        refine ⟨by simp [h1], fun p b hb => ?_⟩
        cases p with
        | zero => simp at hb; subst hb; exact ⟨v, rfl, ha⟩
        | succ p => simpa using h2 p b (by simpa using hb)
      cases t with
      | d l' x =>
        refine fin ⟨l', x⟩ ?_ (by simpa only [RelT] using hv)
        cases l <;> simpa only [zeroRow.go] using h
      | nil =>
        cases l with
        | sl es =>
          refine fin ⟨.sl es, ([] : List (Row es))⟩ (by simpa only [zeroRow.go] using h) ?_
          simp only [RelT] at hv
          subst hv
          simp only [RelL, lst]
          exact ⟨none, 0, rfl, Nat.le_refl _, fun h => absurd rfl h⟩
        | _ => simp [zeroRow.go] at h
      | _ => cases l <;> simp [zeroRow.go] at h

theorem makeSlice_ok (hT : TOk P T) (hO : RelO w Z β U objs) (hid : U id0 = none) {t : TypeId} {l c : TV} {lv cv : Value} (hl : RelT w (zz objs β Z) β U l lv) (hc : RelT w (zz objs β Z) β U c cv) (h : (evMakeSlice T id0 t l c).Runs objs rd e) :
    Tells P (Instr.makeSlice t lv cv) w Z β U objs id0 e := by
  obtain ⟨ln, hln, h⟩ := runs_ofOpt h
  obtain ⟨cn, hcn, h⟩ := runs_ofOpt h
  have := asI_ok hl hln
  subst this
  have := asI_ok hc hcn
  subst this
  obtain ⟨ti, ht, h⟩ := runs_ofOpt h
  have hu := (hT t ti ht).1
  cases hd : ti.desc with
  | slice et =>
    rw [hd] at h hu
    obtain ⟨ei, he, h⟩ := runs_ofOpt h
    obtain ⟨hn, h⟩ := runs_need h
    obtain ⟨hm, h⟩ := runs_need h
    obtain ⟨z, hz, h⟩ := runs_ofOpt h
    obtain ⟨rfl, _⟩ := h
    simp only [Bool.and_eq_true, decide_eq_true_eq] at hn hm
    obtain ⟨⟨hpos, hlv⟩, hzl⟩ := hn
    obtain ⟨⟨⟨h0, hlc⟩, hc32⟩, hcb⟩ := hm
    obtain ⟨_, i, hi, ⟨hisz, hiby, hiz⟩, _⟩ := hT et ei he
    have hzsz : ei.zero.cells.size = ei.size := by simpa [zeroCells] using hzl
    have hcn : ((cn.2.toNat : Nat) : Int) = cn.2 := Int.toNat_of_nonneg (by omega)
    have hrun := run_make (P := P) w t et i ei.zero hu hi hiz ln.1 cn.1 ln.2 cn.2 h0 hlc (by
      rw [hiby, ← hcn]
      have : ((ei.bytes * cn.2.toNat : Nat) : Int) ≤ 281474976710656 := by omega
      rwa [Int.natCast_mul] at this) (by omega)
    rw [hisz] at hrun
    obtain ⟨as, has, hrow⟩ := Option.bind_eq_some_iff.1 hz
    have hobj : ∀ j, j ≠ id0 → addO objs id0 [Obj.arr et ei.lv (List.replicate ln.2.toNat z)] j = objs j ∨ addO objs id0 [Obj.arr et ei.lv (List.replicate ln.2.toNat z)] j = .dead := fun j hj => .inl (by simp [addO, beq_if, hj])
    obtain ⟨β', U', h5, h6, h7⟩ := new_arr2 hO hid et ei.lv (List.replicate ln.2.toNat z) (madeCells ei.zero.cells (cn.2.toNat * ei.size)) cn.2.toNat (by simp; omega) (by simp only [maxLen]; omega) (by rw [size_madeCells, hlv]) (objs' := addO objs id0 [Obj.arr et ei.lv (List.replicate ln.2.toNat z)]) (by simp [addO, beq_if]) hobj
      (fun w' Z' hmove hcell i x hx => by
        obtain ⟨hi', hx'⟩ := List.getElem?_eq_some_iff.1 hx
        simp only [List.length_replicate] at hi'
        simp only [List.getElem_replicate] at hx'
        subst hx'
        obtain ⟨h1, h2⟩ := zgo_ok (w := w) (Z := zz objs β Z) (β := β) (U := U) _ _ as ei.zero.cells.toList has (tvOf_rels _)
        refine rowOf_rel ei.lv as z hrow _ _ fun p a ha => ?_
        obtain ⟨u, hu, hr⟩ := h2 p a ha
        have hp : p < ei.size := by
          have := (List.getElem?_eq_some_iff.1 hu).1
          rw [← hzsz]; simpa using this
        refine ⟨u, hcell _ _ ?_, hmove _ _ _ hr⟩
        have hlt : i * ei.size + p < cn.2.toNat * ei.size := by
          have h3 : (i + 1) * ei.size ≤ cn.2.toNat * ei.size := Nat.mul_le_mul_right _ (by omega)
          rw [Nat.succ_mul] at h3
          omega
        have := made_at ei.zero.cells cn.2.toNat (i * ei.size + p) (by rw [hzsz]; exact hlt)
        rw [hzsz, Nat.mul_comm i, Nat.mul_add_mod, Nat.mod_eq_of_lt hp, hu] at this
        rw [hlv, Nat.mul_comm i]
        simpa using this)
    rw [hlv, List.length_replicate] at h5
    exact ⟨_, _, β', U', hrun, h5, h6, h7⟩
  | _ => rw [hd] at h; exact h.elim
end
end Go.Te
set_option linter.unusedVariables false
set_option linter.unusedSimpArgs false
namespace Go.Te
open Go.RowKit

/-! ### 28. The rest of the values -/
section
variable {P : Program} {T : Nat → Option TI} {w : World} {Z : Nat → Prop} {β : Beta} {U : Nat → Option Nat} {objs : Nat → Obj} {id0 : Nat} {rd : List Nat} {e : Eff}

theorem un_ok (hO : RelO w Z β U objs) {op : UnOp} {x : TV} {v : Value} (hx : RelT w (zz objs β Z) β U x v) (h : (evUn op x).Runs objs rd e) : Tells P (Op.unary op v) w Z β U objs id0 e := by
  cases x with
  | d l y =>
    cases l with
    | int k =>
      simp only [RelT, RelL] at hx
      subst hx
      cases op with
      | neg =>
        obtain ⟨rfl, _⟩ := h
        refine tells_quiet hO (v := .int k (k.wrap (0 - iV y))) ?_ (by simp only [RelT, RelL])
        simp [Op.unary, Op.intArith, iV]
      | xor =>
        obtain ⟨n, hn, h⟩ := runs_ofOpt h
        obtain ⟨rfl, _⟩ := h
        simp only [bitsI, Option.some.injEq] at hn
        refine tells_quiet hO (v := .int k n) ?_ (by simp only [RelT, RelL])
        simp [Op.unary, Op.intBits, ← hn]
      | _ => exact h.elim
    | bool =>
      simp only [RelT, RelL] at hx
      subst hx
      cases op with
      | not =>
        obtain ⟨rfl, _⟩ := h
        exact tells_quiet hO (v := .bool (!y)) (by simp [Op.unary]) (by simp only [RelT, RelL, bV])
      | _ => exact h.elim
    | _ => cases op <;> exact h.elim
  | _ => cases op <;> exact h.elim

theorem bytes_run {src dst et : TypeId} (hs : P.underlying src = some (.slice et)) (he : P.underlying et = some (.int .u8)) (hd : P.underlying dst = some .string) {Z' : Nat → Prop} {xs : List Int} {a : Option Addr} {c : Nat}
    (h : xs ≠ [] → ∃ b off, a = some ⟨b, off, none⟩ ∧ ∀ (i : Nat) y, xs[i]? = some y → RelRow w Z' [.int .u8] y b (off + i * 1)) : (convert src dst (.slice a xs.length c)).run P w = .ok (.string (strOf xs)) w := by
  by_cases hne : xs = []
  · subst hne
    rw [run_convert_bytes_string w src dst et a _ c hs he hd]
    cases a with
    | none => simp [Conv.bytesToString, strOf]; rfl
    | some a =>
      have := run_loadCells_list (P := P) w a [] (by simp)
      simp only [List.length_nil] at this ⊢
      simp [Conv.bytesToString, strOf, this]
      rfl
  · obtain ⟨b, off, rfl, hr⟩ := h hne
    have := run_convert_bytes_arg (P := P) w src et hs he b off xs.length c xs rfl (fun i hi => by
      have := hr i xs[i] (List.getElem?_eq_getElem hi)
      simp only [RelRow, RelL] at this
      obtain ⟨v, hv, rfl⟩ := this
      rw [Nat.mul_one] at hv
      rw [hv]
      simp [List.getD, hi]) dst hd
    exact this

theorem convert_ok (hT : TOk P T) (hO : RelO w Z β U objs) {src dst : TypeId} {x : TV} {v : Value} (hx : RelT w (zz objs β Z) β U x v) (h : (evConvert T src dst x).Runs objs rd e) : Tells P (convert src dst v) w Z β U objs id0 e := by
  obtain ⟨si, hs, h⟩ := runs_ofOpt h
  obtain ⟨di, hd, h⟩ := runs_ofOpt h
  have hus := (hT _ _ hs).1
  have hud := (hT _ _ hd).1
  have fin : ∀ {et : TypeId} {xs : List Int}, si.desc = .slice et → P.underlying et = some (.int .u8) → di.desc = .string → (∃ a c, v = .slice a xs.length c ∧ (xs ≠ [] → ∃ b off, a = some ⟨b, off, none⟩ ∧ ∀ (i : Nat) y, xs[i]? = some y → RelRow w (zz objs β Z) [.int .u8] y b (off + i * 1))) →
      Tells P (convert src dst v) w Z β U objs id0 { v := .d .str (strOf xs) } := by
    intro et xs h1 h2 h3 ⟨a, c, hv, hr⟩
    subst hv
    rw [h1] at hus
    rw [h3] at hud
    exact tells_quiet hO (bytes_run hus h2 hud hr) (by simp only [RelT, RelL, sV])
  cases hsd : si.desc with
  | int k =>
    rw [hsd] at h hus
    cases hdd : di.desc with
    | int k' =>
      rw [hdd] at h hud
      cases x with
      | d l y =>
        cases l with
        | int q =>
          obtain ⟨rfl, _⟩ := h
          simp only [RelT, RelL] at hx
          subst hx
          exact tells_quiet hO (v := .int k' (k'.wrap y)) (by simp [convert, run_underlying hus, run_underlying hud, Conv.intToInt]) (by simp only [RelT, RelL])
        | _ => exact h.elim
      | _ => exact h.elim
    | _ => rw [hdd] at h; cases x <;> exact h.elim
  | string =>
    rw [hsd] at h hus
    cases hdd : di.desc with
    | string =>
      rw [hdd] at h hud
      cases x with
      | d l y =>
        cases l with
        | str =>
          obtain ⟨rfl, _⟩ := h
          simp only [RelT, RelL] at hx
          subst hx
          exact tells_quiet hO (v := .string y) (by simp [convert, run_underlying hus, run_underlying hud]) (by simp only [RelT, RelL])
        | _ => exact h.elim
      | _ => exact h.elim
    | _ => rw [hdd] at h; cases x <;> exact h.elim
  | slice et =>
    rw [hsd] at h hus
    cases hdd : di.desc with
    | string =>
      rw [hdd] at h hud
      cases x with
      | d l y =>
        match l, y, hx, h with
        | .sl [.int .u8], xs, hx, h =>
          obtain ⟨ei, he, h⟩ := runs_ofOpt h
          have hue := (hT _ _ he).1
          cases hee : ei.desc with
          | int q =>
            rw [hee] at h hue
            cases q with
            | u8 =>
              obtain ⟨rfl, _⟩ := h
              simp only [RelT, RelL, lst] at hx
              obtain ⟨a, cap, hv, hc, hr⟩ := hx
              exact fin hsd hue hdd ⟨a, cap, hv, fun hne => let ⟨b, off, h1, _, _, h4⟩ := hr hne; ⟨b, off, h1, h4⟩⟩
            | _ => exact h.elim
          | _ => rw [hee] at h; exact h.elim
        | .sl [], _, _, h => exact h.elim
        | .sl (.int .i8 :: _), _, _, h => exact h.elim
        | .sl (.int .i16 :: _), _, _, h => exact h.elim
        | .sl (.int .i32 :: _), _, _, h => exact h.elim
        | .sl (.int .i64 :: _), _, _, h => exact h.elim
        | .sl (.int .u16 :: _), _, _, h => exact h.elim
        | .sl (.int .u32 :: _), _, _, h => exact h.elim
        | .sl (.int .u64 :: _), _, _, h => exact h.elim
        | .sl (.int .u8 :: _ :: _), _, _, h => exact h.elim
        | .sl (.bool :: _), _, _, h => exact h.elim
        | .sl (.str :: _), _, _, h => exact h.elim
        | .sl (.sl _ :: _), _, _, h => exact h.elim
        | .int _, _, _, h => exact h.elim
        | .bool, _, _, h => exact h.elim
        | .str, _, _, h => exact h.elim
      | nil =>
        obtain ⟨ei, he, h⟩ := runs_ofOpt h
        have hue := (hT _ _ he).1
        cases hee : ei.desc with
        | int q =>
          rw [hee] at h hue
          cases q with
          | u8 =>
            obtain ⟨rfl, _⟩ := h
            simp only [RelT] at hx
            exact fin (xs := []) hsd hue hdd ⟨none, 0, hx, fun hne => absurd rfl hne⟩
          | _ => exact h.elim
        | _ => rw [hee] at h; exact h.elim
      | arr id k n =>
        obtain ⟨ei, he, h⟩ := runs_ofOpt h
        have hue := (hT _ _ he).1
        cases hee : ei.desc with
        | int q =>
          rw [hee] at h hue
          cases q with
          | u8 =>
            obtain ⟨rd', _, h⟩ := h
            simp only [RelT] at hx
            obtain ⟨⟨L, hL, hn⟩, hv⟩ := hx
            cases ho : objs id with
            | arr t es xs =>
              rw [ho] at h
              dsimp only at h
              split at h
              · rename_i xs' heq
                cases heq
                obtain ⟨rfl, _⟩ := h
                have hu := (arrCell hO ho).1
                rw [hL] at hu
                cases hu
                exact fin hsd hue hdd (arr_rows hO ho n hn hv)
              · exact h.elim
            | _ => rw [ho] at h; exact h.elim
          | _ => exact h.elim
        | _ => rw [hee] at h; exact h.elim
      | arrF id k =>
        obtain ⟨ei, he, h⟩ := runs_ofOpt h
        have hue := (hT _ _ he).1
        cases hee : ei.desc with
        | int q =>
          rw [hee] at h hue
          cases q with
          | u8 =>
            obtain ⟨rd', _, h⟩ := h
            simp only [RelT] at hx
            obtain ⟨L, hL, hv⟩ := hx
            cases ho : objs id with
            | arr t es xs =>
              rw [ho] at h
              dsimp only at h
              split at h
              · rename_i xs' heq
                cases heq
                obtain ⟨rfl, _⟩ := h
                have hu := (arrCell hO ho).1
                rw [hL] at hu
                cases hu
                have := arr_rows hO ho _ (Nat.le_refl _) hv
                rw [List.take_length] at this
                exact fin hsd hue hdd this
              · exact h.elim
            | _ => rw [ho] at h; exact h.elim
          | _ => exact h.elim
        | _ => rw [hee] at h; exact h.elim
      | _ => exact h.elim
    | _ => rw [hdd] at h; cases x <;> exact h.elim
  | _ => rw [hsd] at h; cases hdd : di.desc <;> rw [hdd] at h <;> cases x <;> exact h.elim

theorem makeFunc_ok (hO : RelO w Z β U objs) {fn : Fn} {first caps : List TV} {fv cv : Array Value} (hf : RelTs w (zz objs β Z) β U first fv.toList) (hc : RelTs w (zz objs β Z) β U caps cv.toList) (h : (evMakeFunc fn first caps).Runs objs rd e) :
    Tells P (Instr.makeFunc fn fv cv) w Z β U objs id0 e := by
  cases fn with
  | func f =>
    cases first with
    | nil =>
      obtain ⟨rfl, _⟩ := h
      simp only [RelTs] at hf
      have hfv : fv = #[] := by cases fv; simp_all
      subst hfv
      exact tells_quiet hO (v := .func (.func f) #[] cv) rfl (by simp only [RelT]; exact ⟨cv, rfl, hc⟩)
    | cons _ _ => exact h.elim
  | _ => exact h.elim

theorem nilCheck_ok {x : TV} {v : Value} (hx : RelT w (zz objs β Z) β U x v) (h : (evNilCheck x).Runs objs rd e) : e = { v := x } ∧ ((∃ a, v = .pointer (some a)) ∨ ∃ f cv, v = .func (.func f) #[] cv) := by
  cases x with
  | ptr id off => obtain ⟨rfl, _⟩ := h; simp only [RelT] at hx; obtain ⟨_, b, o, _, rfl⟩ := hx; exact ⟨rfl, .inl ⟨_, rfl⟩⟩
  | eptr id k i j => obtain ⟨rfl, _⟩ := h; simp only [RelT] at hx; obtain ⟨_, b, o, _, rfl⟩ := hx; exact ⟨rfl, .inl ⟨_, rfl⟩⟩
  | dptr es y j => obtain ⟨rfl, _⟩ := h; simp only [RelT] at hx; obtain ⟨b, o, _, _, rfl, _⟩ := hx; exact ⟨rfl, .inl ⟨_, rfl⟩⟩
  | fn f caps => obtain ⟨rfl, _⟩ := h; simp only [RelT] at hx; obtain ⟨cv, rfl, _⟩ := hx; exact ⟨rfl, .inr ⟨f, cv, rfl⟩⟩
  | _ => exact h.elim
end
end Go.Te
set_option linter.unusedVariables false
set_option linter.unusedSimpArgs false
namespace Go.Te
open Go.RowKit

/-! ### 29. An operation as the machine does it -/
section
variable {P : Program} {E : Env} {w : World} {Z : Nat → Prop} {β : Beta} {U : Nat → Option Nat} {s : St} {a : Act} {id0 : Nat} {rd : List Nat} {e : Eff}

def Does (P : Program) (o : Oper) (a : Act) (w : World) (Z : Nat → Prop) (β : Beta) (U : Nat → Option Nat) (objs : Nat → Obj) (id0 : Nat) (e : Eff) : Prop :=
  ∃ nx v w' β' U', (execOp a.eval o).run P w = .ok nx w' ∧ (nx = .value v ∨ (nx = .skip ∧ v = undef)) ∧ RelT w' (zz (e.objs objs id0) β' Z) β' U' e.v v ∧ RelO w' Z β' U' (e.objs objs id0) ∧ Fit w β U objs w' β' U' (e.objs objs id0) id0 (id0 + 32)

theorem does_of_tells {S : Sem Value} {o : Oper} {objs : Nat → Obj} (h : Tells P S w Z β U objs id0 e) (hx : execOp a.eval o = (do pure (.value (← S)) : Sem Next)) : Does P o a w Z β U objs id0 e := by
  obtain ⟨v, w', β', U', h1, h2, h3, h4⟩ := h
  exact ⟨.value v, v, w', β', U', by rw [hx]; simp [h1], .inl rfl, h2, h3, h4⟩
theorem does_of_acts {S : Sem Unit} {o : Oper} {objs : Nat → Obj} (h : Acts P S w Z β U objs id0 e) (hx : execOp a.eval o = (do S; pure .skip : Sem Next)) : Does P o a w Z β U objs id0 e := by
  obtain ⟨w', β', U', h1, h2, h3, h4⟩ := h
  exact ⟨.skip, undef, w', β', U', by rw [hx]; simp [h1], .inr ⟨rfl, rfl⟩, by rw [h2]; trivial, h3, h4⟩

theorem ev_rel (hS : ∀ t, RelT w (zz s.objs β Z) β U (s.slots t) (a.tmps.getD t undef)) (x : Operand) : RelT w (zz s.objs β Z) β U (ev s x) (a.eval x) := by
  cases x with
  | tmp t => exact hS t
  | const v => exact tvOf_rel v
  | global g => trivial
  | func f => simp only [ev, RelT, Act.eval]; exact ⟨#[], rfl, rfl⟩
theorem evs_rel (hS : ∀ t, RelT w (zz s.objs β Z) β U (s.slots t) (a.tmps.getD t undef)) : ∀ (xs : List Operand), RelTs w (zz s.objs β Z) β U (xs.map (ev s)) (xs.map a.eval)
  | [] => rfl
  | x :: xs => by
    simp only [List.map_cons, RelTs]
    exact ⟨_, _, rfl, ev_rel hS x, evs_rel hS xs⟩
theorem parts_rel (hS : ∀ t, RelT w (zz s.objs β Z) β U (s.slots t) (a.tmps.getD t undef)) : ∀ (xs : List (Nat × Operand)), RelParts w (zz s.objs β Z) β U (xs.map fun p => (p.1, ev s p.2)) (xs.map fun p => (p.1, a.eval p.2))
  | [] => rfl
  | x :: xs => ⟨_, _, rfl, ev_rel hS x.2, parts_rel hS xs⟩
theorem opt_rel (hS : ∀ t, RelT w (zz s.objs β Z) β U (s.slots t) (a.tmps.getD t undef)) (x : Option Operand) : RelOpt w (zz s.objs β Z) β U (x.map (ev s)) (x.map a.eval) := by
  cases x with
  | none => trivial
  | some x => exact ev_rel hS x

theorem plain_ok (hT : TOk P E.T) (hO : RelO w Z β U s.objs) (hid : U id0 = none) (hS : ∀ t, RelT w (zz s.objs β Z) β U (s.slots t) (a.tmps.getD t undef)) {o : Oper} (h : (evPlain E s id0 o.op).Runs s.objs rd e) : Does P o a w Z β U s.objs id0 e := by
  obtain ⟨dst, op, type, pos, after, guard⟩ := o
  have hx := ev_rel hS
  have quiet : ∀ {x : Operand} {o : Oper}, execOp a.eval o = (pure (.value (a.eval x)) : Sem Next) → Does P o a w Z β U s.objs id0 { v := ev s x } := fun {x o} he =>
    ⟨.value (a.eval x), a.eval x, w, β, U, by rw [he]; rfl, .inl rfl, hx x, hO, Fit.refl _ _ _ _ _ _⟩
  cases op with
  | move x => obtain ⟨rfl, _⟩ := h; exact quiet rfl
  | assign x => obtain ⟨rfl, _⟩ := h; exact quiet rfl
  | alloc t => exact does_of_tells (alloc_ok hT hO hid h) rfl
  | box t x => exact does_of_tells (box_ok hO hid (hx x) h) rfl
  | build t ps =>
    refine does_of_tells (S := Instr.build t (ps.map fun (p : Nat × Operand) => (p.1, a.eval p.2))) (build_ok hT hO (ps := ps.toList.map fun (p : Nat × Operand) => (p.1, ev s p.2)) ?_ h) rfl
    rw [Array.toList_map]
    exact parts_rel hS ps.toList
  | buildSlice t n ps =>
    refine does_of_tells (S := Instr.buildSlice t n (ps.map fun (p : Nat × Operand) => (p.1, a.eval p.2))) (buildSlice_ok hT hO hid (ps := ps.toList.map fun (p : Nat × Operand) => (p.1, ev s p.2)) ?_ h) rfl
    rw [Array.toList_map]
    exact parts_rel hS ps.toList
  | load t x => exact does_of_tells (load_ok hT hO (hx x) h) rfl
  | store t x y => exact does_of_acts (store_ok hT hO (hx x) (hx y) h) rfl
  | nilCheck x =>
    obtain ⟨rfl, hv⟩ := nilCheck_ok (hx x) h
    refine quiet ?_
    simp only [execOp]
    rcases hv with ⟨ad, hv⟩ | ⟨f, cv, hv⟩ <;> rw [hv]
  | binOp op xt x y t => exact does_of_tells (S := binSem op xt x y (a.eval x) (a.eval y)) (bin_ok hT hO (hx x) (hx y) h) rfl
  | unOp op t x => exact does_of_tells (un_ok hO (hx x) h) rfl
  | convert src dst x => exact does_of_tells (convert_ok hT hO (hx x) h) rfl
  | makeFunc fn first caps =>
    refine does_of_tells (S := Instr.makeFunc fn (first.map a.eval) (caps.map a.eval)) (makeFunc_ok hO ?_ ?_ h) rfl
    · rw [Array.toList_map]; exact evs_rel hS _
    · rw [Array.toList_map]; exact evs_rel hS _
  | makeSlice t l c => exact does_of_tells (makeSlice_ok hT hO hid (hx l) (hx c) h) rfl
  | slice t x lo hi mx => exact does_of_tells (slice_ok hT hO (hx x) (opt_rel hS lo) (opt_rel hS hi) (opt_rel hS mx) h) rfl
  | fieldAddr t x f => exact does_of_tells (fieldAddr_ok hT hO (hx x) h) rfl
  | field t x f => exact does_of_tells (field_ok hT hO (hx x) h) rfl
  | indexAddr t x i => exact does_of_tells (indexAddr_ok hT hO (hx x) (hx i) h) rfl
  | index t x i => exact does_of_tells (index_ok hT hO (hx x) (hx i) h) rfl
  | extract x i => exact does_of_tells (extract_ok hO (hx x) h) rfl
  | call c =>
    obtain ⟨callee, args, ts⟩ := c
    obtain ⟨args⟩ := args
    obtain ⟨ts⟩ := ts
    cases callee with
    | builtin b =>
      cases b with
      | len =>
        match args, ts, h with
        | [x], [t], h => exact does_of_tells (S := Builtin.len_ #[t] type #[a.eval x]) (len_ok hT hO (hx x) h) (by simp [execOp, resolve, invoke, builtin])
        | [], _, h => exact h.elim
        | [x], [], h => exact h.elim
        | [x], _ :: _ :: _, h => exact h.elim
        | _ :: _ :: _, _, h => exact h.elim
      | append =>
        match args, ts, h with
        | [x, y], [t, t'], h =>
          have h2 : (bif Nat.beq t t' then evAppend E.T id0 t (ev s x) (ev s y) else .fail).Runs s.objs rd e := h
          cases hb : Nat.beq t t' with
          | false => rw [hb] at h2; exact h2.elim
          | true =>
            rw [hb] at h2
            have := Nat.eq_of_beq_eq_true hb
            subst this
            exact does_of_tells (S := Builtin.append_ #[t, t] type #[a.eval x, a.eval y]) (append_ok hT hO hid (hx x) (hx y) h2) (by simp [execOp, resolve, invoke, builtin])
        | [], _, h => exact h.elim
        | [x], _, h => exact h.elim
        | [x, y], [], h => exact h.elim
        | [x, y], [_], h => exact h.elim
        | [x, y], _ :: _ :: _ :: _, h => exact h.elim
        | _ :: _ :: _ :: _, _, h => exact h.elim
      | min =>
        match args, h with
        | [x, y], h => exact does_of_tells (S := Builtin.min_ ⟨ts⟩ type #[a.eval x, a.eval y]) (minmax_ok (mx := false) (ts := ⟨ts⟩) (ty := type) hO (hx x) (hx y) h) (by simp [execOp, resolve, invoke, builtin])
        | [], h => exact h.elim
        | [x], h => exact h.elim
        | _ :: _ :: _ :: _, h => exact h.elim
      | max =>
        match args, h with
        | [x, y], h => exact does_of_tells (S := Builtin.max_ ⟨ts⟩ type #[a.eval x, a.eval y]) (minmax_ok (mx := true) (ts := ⟨ts⟩) (ty := type) hO (hx x) (hx y) h) (by simp [execOp, resolve, invoke, builtin])
        | [], h => exact h.elim
        | [x], h => exact h.elim
        | _ :: _ :: _ :: _, h => exact h.elim
      | _ => exact h.elim
    | _ => exact h.elim
  | _ => exact h.elim
end
end Go.Te
