/-
  heliographlaw14.SenderGaps: what is claimed and what is not have, together, each byte once.
  No conditions: every input that the statement lets in. Part Sr: own work.
-/
import Derived.Test.YtfjklknekiogcaaSq
set_option linter.unusedVariables false
set_option linter.unusedSimpArgs false
set_option maxRecDepth 100000
namespace Go.Te
open Go.RowKit Go.Proofs

/-! ### The loops of SenderGaps -/
theorem guardGet {α β : Type} (a : List α) (n : Nat) (f : α → Option β) : (bif decide (n < a.length) then a[n]?.bind f else none) = a[n]?.bind f := by
  by_cases h : n < a.length
  · simp [h]
  · simp [h, List.getElem?_eq_none (Nat.le_of_not_lt h)]

/-- One more from k to e. -/
def bumpR (ns : List Int) (k e : Int) : List Int := ns.mapIdx fun i y => if k ≤ (i : Int) ∧ (i : Int) < e then y + 1 else y
theorem bumpR_len (ns : List Int) (k e : Int) : (bumpR ns k e).length = ns.length := by simp [bumpR]
theorem bumpR_get (ns : List Int) (k e : Int) (i : Nat) (h : i < (bumpR ns k e).length) : (bumpR ns k e)[i] = if k ≤ (i : Int) ∧ (i : Int) < e then ns[i]'(by rwa [bumpR_len] at h) + 1 else ns[i]'(by rwa [bumpR_len] at h) := by
  simp only [bumpR, List.getElem_mapIdx]
theorem bumpR_nil (ns : List Int) (k e : Int) (h : e ≤ k) : bumpR ns k e = ns := by
  apply List.ext_getElem (bumpR_len ..)
  intro i h1 h2
  rw [bumpR_get, if_neg (by omega)]
theorem bumpR_set (ns : List Int) (k : Nat) (e : Int) (hk : (k : Int) < e) (hl : k < ns.length) : bumpR (ns.set k (ns[k] + 1)) ((k : Int) + 1) e = bumpR ns k e := by
  apply List.ext_getElem (by simp [bumpR_len])
  intro i h1 h2
  rw [bumpR_get, bumpR_get, List.getElem_set]
  by_cases hki : k = i
  · subst hki
    rw [if_neg (by omega), if_pos rfl, if_pos (by omega)]
  · rw [if_neg hki]
    by_cases h3 : (k : Int) ≤ i ∧ (i : Int) < e
    · rw [if_pos (by omega), if_pos h3]
    · rw [if_neg (by omega), if_neg h3]

abbrev S24 := List (Int × Int) × List Int × (Int × Int) × List (Int × Int) × Int × Int × Int
def dec24 (vals : List TV) (objs : List Obj) : Option S24 :=
  match vals, objs with
  | [.d (.sl ea) l, .arrF 0 1, .ptr 1 0, .d (.int .i64) k, .arrF 2 2, .d (.int .i64) m, .d (.int .i64) i], [.arr 3 es ns, .box [.d (.int .i64) a, .d (.int .i64) b], .arr 80 ec cs] =>
    (rowCast ea Cl l).bind fun l => (rowCast es [.int .i64] ns).bind fun ns => (rowCast ec Cl cs).bind fun cs => some (l, ns, (a, b), cs, k, m, i)
  | _, _ => none
def en24 (s : S24) : List TV × List Obj := ([.d (.sl Cl) s.1, .arrF 0 1, .ptr 1 0, j64 s.2.2.2.2.1, .arrF 2 2, j64 s.2.2.2.2.2.1, j64 s.2.2.2.2.2.2], [.arr 3 [.int .i64] s.2.1, .box [j64 s.2.2.1.1, j64 s.2.2.1.2], .arr 80 Cl s.2.2.2.1])
theorem dec24_eq {vals : List TV} {objs : List Obj} {s : S24} (h : dec24 vals objs = some s) : vals = (en24 s).1 ∧ objs = (en24 s).2 := by
  unfold dec24 at h
  split at h
  · rename_i ea l k m i es ns a b ec cs
    obtain ⟨l', ha, h⟩ := Option.bind_eq_some_iff.1 h
    obtain ⟨ns', hb, h⟩ := Option.bind_eq_some_iff.1 h
    obtain ⟨cs', hc, h⟩ := Option.bind_eq_some_iff.1 h
    obtain ⟨e1, q1⟩ := rowCast_ok ha
    obtain ⟨e2, q2⟩ := rowCast_ok hb
    obtain ⟨e3, q3⟩ := rowCast_ok hc
    subst e1; subst e2; subst e3
    have q1 : l = l' := q1
    have q2 : ns = ns' := q2
    have q3 : cs = cs' := q3
    subst q1; subst q2; subst q3
    injection h with h
    subst h
    exact ⟨rfl, rfl⟩
  · cases h
def ok24 (s : S24) : Bool := decide (s.2.2.2.2.1 = s.2.2.1.1 ∧ 0 ≤ s.2.2.1.1 ∧ 0 ≤ s.2.2.1.2 ∧ s.2.2.1.1 + s.2.2.1.2 ≤ (s.2.1.length : Int) ∧ s.2.1.length < 1099511627776 ∧ ∀ y ∈ s.2.1, 0 ≤ y ∧ y < 1099511627776)
def bump (ns : List Int) (c : Int × Int) : List Int := bumpR ns c.1 (c.1 + c.2)
noncomputable def piece24 : Piece := Piece.two [3, 4, 6, 7, 32, 33, 34] (fun e => match e with | .exit i => (bif Nat.beq i 2 then [3, 4, 32, 33, 34] else []) | _ => []) dec24 ok24 (fun _ => true) (.exit 2) .ret (fun s => ([.d (.sl Cl) s.1, .arrF 0 1, .arrF 1 2, j64 s.2.2.2.2.2.1, j64 s.2.2.2.2.2.2], [.arr 3 [.int .i64] (bump s.2.1 s.2.2.1), .arr 80 Cl s.2.2.2.1])) (fun s => ([], []))
theorem step24 {R : Type} (l : List (Int × Int)) (ns : List Int) (c : Int × Int) (cs : List (Int × Int)) (k m i : Int) (K : TExit → List TV → List Obj → Option R) : evStep SB sb 8 92 0 (loopAt Try.f8.body 24) piece24 (en24 (l, ns, c, cs, k, m, i)).1 (en24 (l, ns, c, cs, k, m, i)).2 K =
    bif decide (k < IntKind.i64.wrap (c.1 + c.2)) then bif decide (0 ≤ k) then bif decide (k.toNat < ns.length) then ns[k.toNat]?.bind fun y => bif decide (0 ≤ k) then bif decide (k.toNat < ns.length) then ns[k.toNat]?.bind fun y1 => K .normal (en24 (l, ns.set k.toNat (IntKind.i64.wrap (y + 1)), c, cs, IntKind.i64.wrap (k + 1), m, i)).1 (en24 (l, ns.set k.toNat (IntKind.i64.wrap (y + 1)), c, cs, IntKind.i64.wrap (k + 1), m, i)).2 else none else none else none else none
    else K (.exit 2) [.d (.sl Cl) l, .arrF 0 1, .arrF 1 2, j64 m, j64 i] [.arr 3 [.int .i64] ns, .arr 80 Cl cs] := by kernel_rfl
theorem loop24 (l : List (Int × Int)) (c : Int × Int) (cs : List (Int × Int)) (m i : Int) (e : Nat) (he : c.1 + c.2 = (e : Int)) (hb : e < 1099511627776) :
    ∀ (j k : Nat) (ns : List Int), e - k = j → k ≤ e → e ≤ ns.length → (∀ i (h : i < ns.length), k ≤ i → 0 ≤ ns[i] ∧ ns[i] < 1099511627776) →
      evLoop SB sb 8 92 0 (loopAt Try.f8.body 24) piece24 (j + 1) (en24 (l, ns, c, cs, (k : Int), m, i)).1 (en24 (l, ns, c, cs, (k : Int), m, i)).2 = some (.exit 2, [.d (.sl Cl) l, .arrF 0 1, .arrF 1 2, j64 m, j64 i], [.arr 3 [.int .i64] (bumpR ns k e), .arr 80 Cl cs]) := by
  have hw : IntKind.i64.wrap (c.1 + c.2) = (e : Int) := by rw [he]; exact IntWalk.i64_in _ (by omega)
  intro j
  induction j with
  | zero =>
    intro k ns hj hk hl hy
    have hke : k = e := by omega
    rw [evLoop_succ, step24, hw]
    have h1 : decide ((k : Int) < (e : Int)) = false := by simp; omega
    rw [h1, bumpR_nil _ _ _ (by omega)]
    rfl
  | succ j ih =>
    intro k ns hj hk hl hy
    have hkn : k < ns.length := by omega
    rw [evLoop_succ, step24, hw]
    have h1 : decide ((k : Int) < (e : Int)) = true := by simp; omega
    have h0 : decide (0 ≤ (k : Int)) = true := by simp
    have h2 : decide (k < ns.length) = true := by simpa using hkn
    have hy' := hy k hkn (Nat.le_refl _)
    have hw1 : IntKind.i64.wrap (ns[k] + 1) = ns[k] + 1 := IntWalk.i64_in _ (by omega)
    have hw2 : IntKind.i64.wrap ((k : Int) + 1) = ((k + 1 : Nat) : Int) := by rw [IntWalk.i64_in _ (by omega)]; push_cast; rfl
    rw [h1, h0, Int.toNat_natCast, h2, List.getElem?_eq_getElem hkn]
    simp only [cond_true, Option.bind_some]
    rw [hw1, hw2]
    simp only [nextR]
    rw [ih (k + 1) (ns.set k (ns[k] + 1)) (by omega) (by omega) (by simpa using hl) (fun i h hki => by
      rw [List.getElem_set, if_neg (by omega)]
      exact hy i (by simpa using h) (by omega))]
    rw [show ((k + 1 : Nat) : Int) = (k : Int) + 1 by push_cast; rfl, bumpR_set _ _ _ (by omega) hkn]
theorem lp24 (s : S24) (hok : ok24 s = true) : ∃ k, evLoop SB sb 8 92 0 (loopAt Try.f8.body 24) piece24 k (en24 s).1 (en24 s).2 = some (.exit 2, [.d (.sl Cl) s.1, .arrF 0 1, .arrF 1 2, j64 s.2.2.2.2.2.1, j64 s.2.2.2.2.2.2], [.arr 3 [.int .i64] (bump s.2.1 s.2.2.1), .arr 80 Cl s.2.2.2.1]) := by
  obtain ⟨l, ns, c, cs, k, m, i⟩ := s
  simp only [ok24, decide_eq_true_eq] at hok
  obtain ⟨h1, h2, h3, h4, h5, h6⟩ := hok
  subst h1
  have := loop24 l c cs m i (c.1 + c.2).toNat (by omega) (by omega) _ c.1.toNat ns rfl (by omega) (by omega) (fun i h _ => h6 _ (List.getElem_mem h))
  rw [show ((c.1.toNat : Nat) : Int) = c.1 by omega, show (((c.1 + c.2).toNat : Nat) : Int) = c.1 + c.2 by omega] at this
  exact ⟨_, this⟩
theorem pok24 (ρ : Option Nat) : PieceOK Try.prog ρ 92 (.loop (loopAt Try.f8.body 24)) piece24 := by
  refine two_ok (fid := 8) SB_ok (pieces_none (fun _ => rfl) _) fun vals objs s hs hok => ?_
  obtain ⟨e1, e2⟩ := dec24_eq hs
  subst e1; subst e2
  exact lp24 s hok
end Go.Te
set_option linter.unusedVariables false
set_option linter.unusedSimpArgs false
set_option maxRecDepth 100000
namespace Go.Te
open Go.RowKit Go.Proofs

/-! ### The outer loop -/
def lookPc : List (Nat × Piece) → Nat → Option Piece
  | [], _ => none
  | p :: l, k => bif Nat.beq k p.1 then some p.2 else lookPc l k
def tabPiece (fid : Nat) (l : List (Nat × Piece)) (f k : Nat) : Option Piece := bif Nat.beq f fid then lookPc l k else none
theorem tabPiece_odd (fid : Nat) : ∀ (l : List (Nat × Piece)), l.all (fun p => Nat.beq (p.1 % 2) 0) = true → ∀ f c, tabPiece fid l f (condKey c) = none
  | [], _, f, c => by unfold tabPiece; cases Nat.beq f fid <;> rfl
  | p :: l, h, f, c => by
    simp only [List.all_cons, Bool.and_eq_true] at h
    have ih := tabPiece_odd fid l h.2 f c
    unfold tabPiece at ih ⊢
    cases hf : Nat.beq f fid with
    | false => rfl
    | true =>
      rw [hf] at ih
      simp only [cond_true, lookPc] at ih ⊢
      cases hb : Nat.beq (condKey c) p.1 with
      | false => exact ih
      | true =>
        have h2 := condKey_odd c
        rw [Nat.eq_of_beq_eq_true hb] at h2
        have := Nat.eq_of_beq_eq_true h.1
        omega

noncomputable def E18 : Env := specEnv (P := Try.prog) (tyAt tab) [] (tabPiece 8 [(24, piece24)])
theorem E18_ok : EnvAll Try.prog E18 := specEnv_ok tOk (by kernel_rfl)
noncomputable abbrev s18 : (R : Type) → Nat → List TV → List Obj → (TV → List Obj → Option R) → Option R := fun R => callAt (R := R) E18 0
theorem pcs18 (ρ : Option Nat) : PiecesOK Try.prog E18 ρ 8 92 (loopAt Try.f8.body 18) := by
  refine pieces_tab (fun c' => tabPiece_odd 8 _ rfl 8 c') _ (by kernel_rfl) fun x hx p hp => ?_
  have hn : nodes (loopAt Try.f8.body 18) = [(24, .loop (loopAt Try.f8.body 24))] := by kernel_rfl
  rw [hn] at hx
  simp only [List.mem_singleton] at hx
  subst hx
  have hp : some piece24 = some p := hp
  cases hp
  exact pok24 ρ
abbrev S18 := List (Int × Int) × List Int × List (Int × Int) × Int × Int
def en18 (s : S18) : List TV × List Obj := ([.d (.sl Cl) s.1, .arrF 0 1, .arrF 1 2, j64 s.2.2.2.1, j64 s.2.2.2.2], [.arr 3 [.int .i64] s.2.1, .arr 80 Cl s.2.2.1])
def dec18 (vals : List TV) (objs : List Obj) : Option S18 :=
  match vals, objs with
  | [.d (.sl ea) l, .arrF 0 1, .arrF 1 2, .d (.int .i64) m, .d (.int .i64) i], [.arr 3 es ns, .arr 80 ec cs] =>
    (rowCast ea Cl l).bind fun l => (rowCast es [.int .i64] ns).bind fun ns => (rowCast ec Cl cs).bind fun cs => some (l, ns, cs, m, i)
  | _, _ => none
theorem dec18_eq {vals : List TV} {objs : List Obj} {s : S18} (h : dec18 vals objs = some s) : vals = (en18 s).1 ∧ objs = (en18 s).2 := by
  unfold dec18 at h
  split at h
  · rename_i ea l m i es ns ec cs
    obtain ⟨l', ha, h⟩ := Option.bind_eq_some_iff.1 h
    obtain ⟨ns', hb, h⟩ := Option.bind_eq_some_iff.1 h
    obtain ⟨cs', hc, h⟩ := Option.bind_eq_some_iff.1 h
    obtain ⟨e1, q1⟩ := rowCast_ok ha
    obtain ⟨e2, q2⟩ := rowCast_ok hb
    obtain ⟨e3, q3⟩ := rowCast_ok hc
    subst e1; subst e2; subst e3
    have q1 : l = l' := q1
    have q2 : ns = ns' := q2
    have q3 : cs = cs' := q3
    subst q1; subst q2; subst q3
    injection h with h
    subst h
    exact ⟨rfl, rfl⟩
  · cases h
def okB (ns : List Int) (c : Int × Int) : Bool := ok24 ([], ns, c, [], c.1, 0, 0)
def run18 : List Int → List (Int × Int) → Option (List Int)
  | ns, [] => some ns
  | ns, c :: cs => bif okB ns c then run18 (bump ns c) cs else none
def ok18 (s : S18) : Bool := decide (s.2.2.2.1 = (s.2.2.1.length : Int) ∧ s.2.2.2.2 = 0 ∧ s.2.2.1.length < 1099511627776) && (run18 s.2.1 s.2.2.1).isSome
noncomputable def piece18 : Piece := Piece.two [3, 4, 32, 33, 34] (fun e => match e with | .exit i => (bif Nat.beq i 0 then [3, 4] else []) | _ => []) dec18 ok18 (fun _ => true) (.exit 0) .ret (fun s => ([.d (.sl Cl) s.1, .arrF 0 1], [.arr 3 [.int .i64] ((run18 s.2.1 s.2.2.1).getD [])])) (fun s => ([], []))
theorem step18 {R : Type} (l : List (Int × Int)) (ns : List Int) (cs : List (Int × Int)) (m i : Int) (K : TExit → List TV → List Obj → Option R) : evStep E18 s18 8 92 0 (loopAt Try.f8.body 18) piece18 (en18 (l, ns, cs, m, i)).1 (en18 (l, ns, cs, m, i)).2 K =
    bif decide (i < m) then bif decide (0 ≤ i) then bif decide (i.toNat < cs.length) then cs[i.toNat]?.bind fun c => bif okB ns c then K .normal (en18 (l, bump ns c, cs, m, IntKind.i64.wrap (i + 1))).1 (en18 (l, bump ns c, cs, m, IntKind.i64.wrap (i + 1))).2 else none else none else none
    else K (.exit 0) [.d (.sl Cl) l, .arrF 0 1] [.arr 3 [.int .i64] ns] := by kernel_rfl
theorem loop18 (l cs : List (Int × Int)) (ns' : List Int) (hb : cs.length < 1099511627776) : ∀ (j i : Nat) (ns : List Int), cs.length - i = j → i ≤ cs.length → run18 ns (cs.drop i) = some ns' →
    evLoop E18 s18 8 92 0 (loopAt Try.f8.body 18) piece18 (j + 1) (en18 (l, ns, cs, (cs.length : Int), (i : Int))).1 (en18 (l, ns, cs, (cs.length : Int), (i : Int))).2 = some (.exit 0, [.d (.sl Cl) l, .arrF 0 1], [.arr 3 [.int .i64] ns']) := by
  intro j
  induction j with
  | zero =>
    intro i ns hj hi hr
    rw [evLoop_succ, step18]
    have h1 : decide ((i : Int) < (cs.length : Int)) = false := by simp; omega
    rw [List.drop_eq_nil_of_le (by omega)] at hr
    cases hr
    rw [h1]
    rfl
  | succ j ih =>
    intro i ns hj hi hr
    have hia : i < cs.length := by omega
    rw [evLoop_succ, step18]
    have h1 : decide ((i : Int) < (cs.length : Int)) = true := by simp; omega
    have h0 : decide (0 ≤ (i : Int)) = true := by simp
    have h2 : decide (i < cs.length) = true := by simpa using hia
    have hw : IntKind.i64.wrap ((i : Int) + 1) = ((i + 1 : Nat) : Int) := by rw [IntWalk.i64_in _ (by omega)]; push_cast; rfl
    rw [List.drop_eq_getElem_cons hia] at hr
    simp only [run18] at hr
    rw [h1, h0, Int.toNat_natCast, h2, List.getElem?_eq_getElem hia, hw]
    simp only [cond_true, Option.bind_some]
    cases hok : okB ns cs[i] with
    | false => rw [hok] at hr; cases hr
    | true =>
      rw [hok] at hr
      simp only [cond_true, nextR]
      exact ih (i + 1) (bump ns cs[i]) (by omega) (by omega) hr
theorem lp18 (s : S18) (hok : ok18 s = true) : ∃ k, evLoop E18 s18 8 92 0 (loopAt Try.f8.body 18) piece18 k (en18 s).1 (en18 s).2 = some (.exit 0, [.d (.sl Cl) s.1, .arrF 0 1], [.arr 3 [.int .i64] ((run18 s.2.1 s.2.2.1).getD [])]) := by
  obtain ⟨l, ns, cs, m, i⟩ := s
  simp only [ok18, Bool.and_eq_true, decide_eq_true_eq] at hok
  obtain ⟨⟨h1, h2, h3⟩, h4⟩ := hok
  subst h1; subst h2
  obtain ⟨ns', hns⟩ := Option.isSome_iff_exists.1 h4
  have := loop18 l cs ns' h3 cs.length 0 ns (Nat.sub_zero _) (Nat.zero_le _) hns
  refine ⟨_, this.trans ?_⟩
  have e : (run18 ns cs).getD [] = ns' := by rw [hns]; rfl
  exact congrArg (fun x => some (TExit.exit 0, [TV.d (.sl Cl) l, .arrF 0 1], [Obj.arr 3 [.int .i64] x])) e.symm
theorem pok18 (ρ : Option Nat) : PieceOK Try.prog ρ 92 (.loop (loopAt Try.f8.body 18)) piece18 := by
  refine two_ok (fid := 8) E18_ok (pcs18 _) fun vals objs s hs hok => ?_
  obtain ⟨e1, e2⟩ := dec18_eq hs
  subst e1; subst e2
  exact lp18 s hok

/-! ### The last two -/
abbrev S34 := List (Int × Int) × List Int × Int × Int
def en34 (s : S34) : List TV × List Obj := ([.d (.sl Cl) s.1, .arrF 0 1, j64 s.2.2.1, j64 s.2.2.2], [.arr 3 [.int .i64] s.2.1])
def dec34 (vals : List TV) (objs : List Obj) : Option S34 :=
  match vals, objs with
  | [.d (.sl ea) l, .arrF 0 1, .d (.int .i64) m, .d (.int .i64) i], [.arr 3 es ns] => (rowCast ea Cl l).bind fun l => (rowCast es [.int .i64] ns).bind fun ns => some (l, ns, m, i)
  | _, _ => none
theorem dec34_eq {vals : List TV} {objs : List Obj} {s : S34} (h : dec34 vals objs = some s) : vals = (en34 s).1 ∧ objs = (en34 s).2 := by
  unfold dec34 at h
  split at h
  · rename_i ea l m i es ns
    obtain ⟨l', ha, h⟩ := Option.bind_eq_some_iff.1 h
    obtain ⟨ns', hb, h⟩ := Option.bind_eq_some_iff.1 h
    obtain ⟨e1, q1⟩ := rowCast_ok ha
    obtain ⟨e2, q2⟩ := rowCast_ok hb
    subst e1; subst e2
    have q1 : l = l' := q1
    have q2 : ns = ns' := q2
    subst q1; subst q2
    injection h with h
    subst h
    exact ⟨rfl, rfl⟩
  · cases h
def ok34' (s : S34) : Bool := decide (s.2.2.1 = (s.2.1.length : Int) ∧ s.2.2.2 = 0 ∧ s.2.1.length < 1099511627776)
def ones (ns : List Int) : Bool := scanB (fun (_ : Unit) (y : Int) => y != 1) (fun _ _ => ()) () ns
noncomputable def piece34' : Piece := Piece.two [3, 4, 57, 58] (fun e => match e with | .ret => [2] | .exit i => (bif Nat.beq i 4 then [3] else []) | _ => []) dec34 ok34' (fun s => ones s.2.1) (.exit 4) .ret (fun s => ([.d (.sl Cl) s.1], [])) (fun s => ([.d .bool false], []))
theorem step34' {R : Type} (l : List (Int × Int)) (ns : List Int) (m i : Int) (K : TExit → List TV → List Obj → Option R) : evStep SB sb 8 92 0 (loopAt Try.f8.body 34) piece34' (en34 (l, ns, m, i)).1 (en34 (l, ns, m, i)).2 K =
    bif decide (i < m) then bif decide (0 ≤ i) then bif decide (i.toNat < ns.length) then ns[i.toNat]?.bind fun y => bif y != 1 then K .ret [.d .bool false] [] else K .normal (en34 (l, ns, m, IntKind.i64.wrap (i + 1))).1 (en34 (l, ns, m, IntKind.i64.wrap (i + 1))).2 else none else none
    else K (.exit 4) [.d (.sl Cl) l] [] := by kernel_rfl
theorem lp34' (s : S34) (hok : ok34' s = true) : ∃ k, evLoop SB sb 8 92 0 (loopAt Try.f8.body 34) piece34' k (en34 s).1 (en34 s).2 = some (bif ones s.2.1 then (.exit 4, ([.d (.sl Cl) s.1], [])) else (.ret, ([.d .bool false], []))) := by
  obtain ⟨l, ns, m, i⟩ := s
  simp only [ok34', decide_eq_true_eq] at hok
  obtain ⟨h1, h2, h3⟩ := hok
  subst h1; subst h2
  have := scanLoop (E := SB) (call := sb) (fid := 8) (nt := 92) (body := loopAt Try.f8.body 34) (p := piece34') ns (fun (_ : Unit) (y : Int) => y != 1) (fun _ _ => ()) (fun _ i => (en34 (l, ns, (ns.length : Int), i)).1) [.arr 3 [.int .i64] ns] 4 (fun _ _ _ => ([.d .bool false], [])) (fun _ => ([.d (.sl Cl) l], [])) h3 (fun _ i K => by
    refine (step34' l ns _ i K).trans ?_
    rw [guardGet]
    rfl) ns.length 0 () (Nat.sub_zero _) (Nat.zero_le _)
  rw [scanR_B, List.drop_zero] at this
  exact ⟨_, this⟩
theorem pok34' (ρ : Option Nat) : PieceOK Try.prog ρ 92 (.loop (loopAt Try.f8.body 34)) piece34' := by
  refine two_ok (fid := 8) SB_ok (pieces_none (fun _ => rfl) _) fun vals objs s hs hok => ?_
  obtain ⟨e1, e2⟩ := dec34_eq hs
  subst e1; subst e2
  exact lp34' s hok

def outR2 : TExit → List Nat := fun e => match e with
  | .ret => [2]
  | _ => []
abbrev S46 := List (Int × Int) × Int
def en46 (s : S46) : List TV := [.d (.sl Cl) s.1, j64 s.2]
def dec46 (vals : List TV) (objs : List Obj) : Option S46 :=
  match vals, objs with
  | [.d (.sl ea) l, .d (.int .i64) i], [] => (rowCast ea Cl l).bind fun l => some (l, i)
  | _, _ => none
theorem dec46_eq {vals : List TV} {objs : List Obj} {s : S46} (h : dec46 vals objs = some s) : vals = en46 s ∧ objs = [] := by
  unfold dec46 at h
  split at h
  · rename_i ea l i
    obtain ⟨l', ha, h⟩ := Option.bind_eq_some_iff.1 h
    obtain ⟨e1, q1⟩ := rowCast_ok ha
    subst e1
    have q1 : l = l' := q1
    subst q1
    injection h with h
    subst h
    exact ⟨rfl, rfl⟩
  · cases h
def ok46 (s : S46) : Bool := decide (s.2 = 1 ∧ s.1.length < 1099511627776)
/-- Each begins behind the one before. -/
def apart : List (Int × Int) → Bool
  | [] => true
  | c :: cs => (match cs with
    | [] => true
    | d :: _ => !decide (d.1 ≤ IntKind.i64.wrap (c.1 + c.2))) && apart cs
noncomputable def piece46 : Piece := Piece.two [3, 9] outR2 dec46 ok46 (fun s => apart s.1) (.exit 6) .ret (fun s => ([], [])) (fun s => ([.d .bool false], []))
theorem step46 {R : Type} (l : List (Int × Int)) (i : Int) (K : TExit → List TV → List Obj → Option R) : evStep SB sb 8 92 0 (loopAt Try.f8.body 46) piece46 (en46 (l, i)) [] K =
    bif decide (i < (l.length : Int)) then bif decide (0 ≤ i) then l[i.toNat]?.bind fun y => bif decide (0 ≤ IntKind.i64.wrap (i - 1)) then l[(IntKind.i64.wrap (i - 1)).toNat]?.bind fun y1 => bif decide (0 ≤ IntKind.i64.wrap (i - 1)) then l[(IntKind.i64.wrap (i - 1)).toNat]?.bind fun y2 =>
      bif decide (y.1 ≤ IntKind.i64.wrap (y1.1 + y2.2)) then K .ret [.d .bool false] [] else K .normal (en46 (l, IntKind.i64.wrap (i + 1))) [] else none else none else none
    else K (.exit 6) [] [] := by kernel_rfl
theorem loop46 (l : List (Int × Int)) (hb : l.length < 1099511627776) : ∀ (j i : Nat), l.length - (i + 1) = j → i + 1 ≤ l.length →
    evLoop SB sb 8 92 0 (loopAt Try.f8.body 46) piece46 (j + 1) (en46 (l, ((i + 1 : Nat) : Int))) [] = some (bif apart (l.drop i) then (.exit 6, ([], [])) else (.ret, ([.d .bool false], []))) := by
  intro j
  induction j with
  | zero =>
    intro i hj hi
    rw [evLoop_succ, step46]
    have h1 : decide (((i + 1 : Nat) : Int) < (l.length : Int)) = false := by simp; omega
    have hd : l.drop i = [l[i]'(by omega)] := by rw [List.drop_eq_getElem_cons (by omega), List.drop_eq_nil_of_le (by omega)]
    rw [h1, hd]
    rfl
  | succ j ih =>
    intro i hj hi
    have hia : i < l.length := by omega
    have hib : i + 1 < l.length := by omega
    rw [evLoop_succ, step46]
    have h1 : decide (((i + 1 : Nat) : Int) < (l.length : Int)) = true := by simp; omega
    have h0 : decide (0 ≤ ((i + 1 : Nat) : Int)) = true := by simp; omega
    have h0' : decide (0 ≤ (i : Int)) = true := by simp
    have hw : IntKind.i64.wrap (((i + 1 : Nat) : Int) - 1) = (i : Int) := by rw [IntWalk.i64_in _ (by omega)]; omega
    have hw2 : IntKind.i64.wrap (((i + 1 : Nat) : Int) + 1) = ((i + 1 + 1 : Nat) : Int) := by rw [IntWalk.i64_in _ (by omega)]; push_cast; rfl
    rw [h1, h0, hw, hw2, h0', Int.toNat_natCast, Int.toNat_natCast, List.getElem?_eq_getElem hia, List.getElem?_eq_getElem hib]
    have hd : l.drop i = l[i] :: l[i + 1] :: l.drop (i + 2) := by rw [List.drop_eq_getElem_cons hia, List.drop_eq_getElem_cons hib]
    have hd2 : l.drop (i + 1) = l[i + 1] :: l.drop (i + 2) := List.drop_eq_getElem_cons hib
    have ih' := ih (i + 1) (by omega) (by omega)
    rw [hd2] at ih'
    rw [hd]
    simp only [cond_true, Option.bind_some]
    rw [show apart (l[i] :: l[i + 1] :: l.drop (i + 2)) = (!decide (l[i + 1].1 ≤ IntKind.i64.wrap (l[i].1 + l[i].2)) && apart (l[i + 1] :: l.drop (i + 2))) from rfl]
    cases hbad : decide (l[i + 1].1 ≤ IntKind.i64.wrap (l[i].1 + l[i].2)) with
    | true => rfl
    | false => exact ih'
theorem lp46 (s : S46) (hok : ok46 s = true) : ∃ k, evLoop SB sb 8 92 0 (loopAt Try.f8.body 46) piece46 k (en46 s) [] = some (bif apart s.1 then (.exit 6, ([], [])) else (.ret, ([.d .bool false], []))) := by
  obtain ⟨l, i⟩ := s
  simp only [ok46, decide_eq_true_eq] at hok
  obtain ⟨h1, h2⟩ := hok
  subst h1
  cases l with
  | nil => exact ⟨1, by rw [evLoop_succ, step46]; rfl⟩
  | cons c l => exact ⟨_, loop46 (c :: l) h2 _ 0 rfl (by simp)⟩
theorem pok46 (ρ : Option Nat) : PieceOK Try.prog ρ 92 (.loop (loopAt Try.f8.body 46)) piece46 := by
  refine two_ok (fid := 8) SB_ok (pieces_none (fun _ => rfl) _) fun vals objs s hs hok => ?_
  obtain ⟨e1, e2⟩ := dec46_eq hs
  subst e1; subst e2
  exact lp46 s hok
end Go.Te
set_option linter.unusedVariables false
set_option linter.unusedSimpArgs false
set_option maxRecDepth 100000
namespace Go.Te
open Go.RowKit Go.Proofs

/-! ### heliographlaw14.SenderGaps -/
noncomputable def E8 : Env := specEnv (tyAt tab) [sr22, sr29, sr36, sr27] (tabPiece 8 [(18, piece18), (34, piece34'), (46, piece46)])
theorem E8_ok : EnvAll Try.prog E8 := specEnv_ok tOk (by kernel_rfl)
theorem nodes8 : nodes (nbody Try.f8.body) = [(18, .loop (loopAt Try.f8.body 18)), (24, .loop (loopAt Try.f8.body 24)), (34, .loop (loopAt Try.f8.body 34)), (46, .loop (loopAt Try.f8.body 46))] := by kernel_rfl
theorem pcs8 (c : Code) (hc : Try.f8.body = some c) : PiecesOK Try.prog E8 none 8 Try.f8.ntmps c := by
  have hn : nodes c = [(18, .loop (loopAt Try.f8.body 18)), (24, .loop (loopAt Try.f8.body 24)), (34, .loop (loopAt Try.f8.body 34)), (46, .loop (loopAt Try.f8.body 46))] := by rw [← nodes8]; rw [hc]; rfl
  have hr : rangeFlat false (nbody Try.f8.body) = true := by kernel_rfl
  rw [hc] at hr
  refine pieces_tab (fun c' => tabPiece_odd 8 _ rfl 8 c') c hr fun x hx p hp => ?_
  rw [hn] at hx
  simp only [List.mem_cons, List.not_mem_nil, or_false] at hx
  rcases hx with rfl | rfl | rfl | rfl
  · have hp : some piece18 = some p := hp
    cases hp
    exact pok18 none
  · have hp : none = some p := hp
    cases hp
  · have hp : some piece34' = some p := hp
    cases hp
    exact pok34' none
  · have hp : some piece46 = some p := hp
    cases hp
    exact pok46 none
def mk8 (B : List Int) : Bool := decide (0 ≤ (B.length : Int)) && decide ((B.length : Int) ≤ (B.length : Int)) && decide ((B.length : Int) ≤ 4294967296) && decide (8 * ((B.length : Int)).toNat ≤ 281474976710656)
def tail8 (l got : List (Int × Int)) (n : Nat) : Option (TV × List Obj) :=
  bif decide (0 + got.length < 1099511627776 / (16 + 1)) then (bif decide (got.length + l.length < 1099511627776 / (16 + 1)) then
    (bif ok18 (l, List.replicate n 0, got ++ l, ((got ++ l).length : Int), 0) then
      (bif ok34' (l, (run18 (List.replicate n 0) (got ++ l)).getD [], (((run18 (List.replicate n 0) (got ++ l)).getD []).length : Int), 0) then
        (bif ones ((run18 (List.replicate n 0) (got ++ l)).getD []) then (bif ok46 (l, 1) then (bif apart l then some (.d .bool true, []) else some (.d .bool false, [])) else none) else some (.d .bool false, []))
      else none)
    else none) else none) else none
theorem ev8 (a : Snd) : evFn (R := TV × List Obj) E8 (fun R => callAt (R := R) E8 0) 8 Try.f8 [argT true ti57.lv a] [] (fun v o => some (v, o)) =
    bif (F36 (short29 a)).isSome then (bif (F27 (short29 a)).isSome then (bif (F27 (short29 a)).getD (Int.ofNat 0) != 0 then some (.d .bool ((((F36 (short29 a)).getD default).length : Int) == 0), []) else
      bif mk8 (sndB (short29 a)) then tail8 ((F36 (short29 a)).getD default) (sndG (short29 a)) ((sndB (short29 a)).length : Int).toNat else none) else none) else none := by kernel_rfl
end Go.Te
set_option linter.unusedVariables false
set_option linter.unusedSimpArgs false
set_option maxRecDepth 100000
namespace Go.Te
open Go.RowKit Go.Proofs

/-! ### What Check says -/
theorem isSome_bif {α : Type} (c : Bool) (x y : Option α) : (bif c then x else y).isSome = bif c then x.isSome else y.isSome := by cases c <;> rfl
theorem bif_same (c : Bool) : (bif c then true else true) = true := by cases c <;> rfl
theorem orT {c t : Bool} (h : c = false → t = true) : (bif c then true else t) = true := by
  cases c with
  | true => rfl
  | false => exact h rfl
theorem thenE {c : Bool} {t : Option Int} {v w : Int} (hv : v ≠ w) (h : (bif c then t else some v) = some w) : c = true ∧ t = some w := by
  cases c with
  | true => exact ⟨rfl, h⟩
  | false => injection h with h; exact absurd h hv
theorem elseE {c : Bool} {t : Option Int} {v w : Int} (hv : v ≠ w) (h : (bif c then some v else t) = some w) : c = false ∧ t = some w := by
  cases c with
  | false => exact ⟨rfl, h⟩
  | true => injection h with h; exact absurd h hv
theorem guardE {c : Bool} {t : Option Int} {w : Int} (h : (bif c then t else none) = some w) : c = true ∧ t = some w := by
  cases c with
  | true => exact ⟨rfl, h⟩
  | false => cases h

theorem tot91 (a : SegT) (h1 : okSegT a = true) : (F91 a).isSome = true := by
  have h2 : decide (List.length a.2.2.2.2.2.2.2.2.2.2.2.2 < 1099511627776) = true := by
    have h1 : (decide ((segD a).length < 1099511627776) && decide ((segC a).length < 1099511627776)) = true := h1
    rw [Bool.and_eq_true] at h1
    exact h1.2
  unfold F91 f91
  simp only [isSome_bif, Option.isSome_some, h1, h2, cond_true, bif_same]
theorem zero91 (a : SegT) (hk : (a.1 == 1) = true) (h : F91 a = some 0) : inI a.2.2.2.2.2.2.1 1 512 = true ∧ inI (a.2.2.2.2.2.2.2.2.2.2.2.1.length : Int) 1 100 = true ∧ inI a.2.2.2.2.2.1 0 (IntKind.i64.wrap (a.2.2.2.2.2.2.1 - (a.2.2.2.2.2.2.2.2.2.2.2.1.length : Int))) = true := by
  unfold F91 f91 at h
  rw [hk] at h
  simp only [cond_true] at h
  obtain ⟨_, h⟩ := thenE (by decide) h
  obtain ⟨_, h⟩ := thenE (by decide) h
  obtain ⟨h1, h⟩ := thenE (by decide) h
  obtain ⟨h2, h⟩ := thenE (by decide) h
  obtain ⟨h3, h⟩ := thenE (by decide) h
  exact ⟨h1, h2, h3⟩
theorem inI_le {a b c : Int} (h : inI a b c = true) : b ≤ a ∧ a ≤ c := by
  simp only [inI, geI, leI, Bool.and_eq_true, decide_eq_true_eq] at h
  exact ⟨h.1, h.2⟩

abbrev lastT (a : SndT) : SegT := (a.2.2.2.2.2.2.2.1, a.2.2.2.2.2.2.2.2.1, a.2.2.2.2.2.2.2.2.2.1, a.2.2.2.2.2.2.2.2.2.2.1, a.2.2.2.2.2.2.2.2.2.2.2.1, a.2.2.2.2.2.2.2.2.2.2.2.2.1, a.2.2.2.2.2.2.2.2.2.2.2.2.2.1, a.2.2.2.2.2.2.2.2.2.2.2.2.2.2.1, a.2.2.2.2.2.2.2.2.2.2.2.2.2.2.2.1, a.2.2.2.2.2.2.2.2.2.2.2.2.2.2.2.2.1, a.2.2.2.2.2.2.2.2.2.2.2.2.2.2.2.2.2.1, a.2.2.2.2.2.2.2.2.2.2.2.2.2.2.2.2.2.2.1, a.2.2.2.2.2.2.2.2.2.2.2.2.2.2.2.2.2.2.2.1)
theorem neF {x y : Int} (h : (x != y) = false) : x = y := by simpa using h
theorem tot27 (a : SndT) (hG : decide (List.length a.2.2.2.2.2.2.1 < 1099511627776) = true) (hL : okSegT (lastT a) = true) (hS : decide (List.length a.2.2.2.2.2.2.2.2.2.2.2.2.2.2.2.2.2.2.2.2.2.2.1 < 1099511627776) = true) : (F27 a).isSome = true := by
  have hF : (F91 (lastT a)).isSome = true := tot91 _ hL
  have hD : decide (List.length a.2.2.2.2.2.2.2.2.2.2.2.2.2.2.2.2.2.2.1 < 1099511627776) = true := by
    have h1 : (decide ((segD (lastT a)).length < 1099511627776) && decide ((segC (lastT a)).length < 1099511627776)) = true := hL
    rw [Bool.and_eq_true] at h1
    exact h1.1
  unfold F27 f27
  simp only [isSome_bif, Option.isSome_some, Option.isSome_none, hG, hF, hD, hS, cond_true, bif_same]
  refine orT fun _ => orT fun _ => orT fun _ => orT fun hz => orT fun hk => orT fun _ => orT fun _ => orT fun _ => orT fun ht => ?_
  obtain ⟨v, hv⟩ := Option.isSome_iff_exists.1 hF
  have hv0 : F91 (lastT a) = some 0 := by
    have hz : ((F91 (lastT a)).getD (Int.ofNat 0) != 0) = false := hz
    rw [hv] at hz ⊢
    exact congrArg some (neF hz)
  obtain ⟨h1, h2, h3⟩ := zero91 (lastT a) (by rw [show (lastT a).1 = a.2.2.2.2.2.2.2.1 from rfl, neF hk]; rfl) hv0
  have h1 := inI_le h1
  have h2 := inI_le h2
  have h3 := inI_le h3
  have e1 : (lastT a).2.2.2.2.2.2.1 = (List.length a.2.2.1 : Int) := neF ht
  rw [e1] at h1 h3
  rw [IntWalk.i64_in _ (by omega)] at h3
  have h3 : 0 ≤ a.2.2.2.2.2.2.2.2.2.2.2.2.1 ∧ a.2.2.2.2.2.2.2.2.2.2.2.2.1 ≤ (List.length a.2.2.1 : Int) - (List.length a.2.2.2.2.2.2.2.2.2.2.2.2.2.2.2.2.2.2.1 : Int) := h3
  have g1 : decide (0 ≤ a.2.2.2.2.2.2.2.2.2.2.2.2.1) = true := decide_eq_true h3.1
  have g2 : decide (Int.toNat a.2.2.2.2.2.2.2.2.2.2.2.2.1 ≤ List.length a.2.2.1) = true := decide_eq_true (by omega)
  have g3 : decide ((((List.length a.2.2.2.2.2.2.2.2.2.2.2.2.2.2.2.2.2.2.1) : Int)).toNat ≤ (List.drop (Int.toNat a.2.2.2.2.2.2.2.2.2.2.2.2.1) (List.take (List.length a.2.2.1) a.2.2.1)).length) = true := decide_eq_true (by
    rw [List.length_drop, List.take_length]
    omega)
  rw [g1, g2, g3]
  rfl
theorem zero27 (a : SndT) (h : F27 a = some 0) : spec82 (a.1, a.2.1, a.2.2.1, a.2.2.2.1, a.2.2.2.2.1) = true ∧ scanB (bad90 ((List.length a.2.2.1) : Int)) nx90 (-1) a.2.2.2.2.2.2.1 = true := by
  unfold F27 f27 at h
  obtain ⟨h1, h⟩ := elseE (by decide) h
  obtain ⟨_, h⟩ := elseE (by decide) h
  obtain ⟨_, h⟩ := guardE h
  obtain ⟨h2, h⟩ := elseE (by decide) h
  exact ⟨by simpa using h1, by simpa using h2⟩
theorem block82 {a : Int × Int × List Int × Int × Int} (h : spec82 a = true) : a.2.2.1.length ≤ 512 := by
  simp only [spec82, Bool.and_eq_true] at h
  have := inI_le h.2.2.1
  omega
end Go.Te
set_option linter.unusedVariables false
set_option linter.unusedSimpArgs false
set_option maxRecDepth 100000
namespace Go.Te
open Go.RowKit Go.Proofs

/-! ### Each byte once -/
def one1 (c : Int × Int) (i : Int) : Int := if c.1 ≤ i ∧ i < c.1 + c.2 then 1 else 0
def cover : List (Int × Int) → Int → Int
  | [], _ => 0
  | c :: cs, i => one1 c i + cover cs i
theorem cover_append (i : Int) : ∀ (x y : List (Int × Int)), cover (x ++ y) i = cover x i + cover y i
  | [], y => by simp [cover]
  | c :: x, y => by
    simp only [List.cons_append, cover, cover_append i x y]
    omega
theorem one1_le (c : Int × Int) (i : Int) : 0 ≤ one1 c i ∧ one1 c i ≤ 1 := by unfold one1; split <;> omega
def inN (n : Nat) (c : Int × Int) : Prop := 0 ≤ c.1 ∧ 0 ≤ c.2 ∧ c.1 + c.2 ≤ (n : Int)
theorem bump_get (ns : List Int) (c : Int × Int) (i : Nat) (h : i < (bump ns c).length) : (bump ns c)[i] = ns[i]'(by simpa [bump, bumpR_len] using h) + one1 c i := by
  refine (bumpR_get ns c.1 (c.1 + c.2) i h).trans ?_
  unfold one1
  by_cases h1 : c.1 ≤ (i : Int) ∧ (i : Int) < c.1 + c.2
  · rw [if_pos h1, if_pos h1]
  · rw [if_neg h1, if_neg h1]; omega
theorem bump_len (ns : List Int) (c : Int × Int) : (bump ns c).length = ns.length := by simp [bump, bumpR_len]
theorem okB_of {ns : List Int} {c : Int × Int} (hc : inN ns.length c) (hl : ns.length < 1099511627776) (hy : ∀ y ∈ ns, 0 ≤ y ∧ y < 1099511627776) : okB ns c = true := by
  simp only [okB, ok24, decide_eq_true_eq]
  exact ⟨trivial, hc.1, hc.2.1, hc.2.2, hl, hy⟩
theorem run18_eq : ∀ (cs : List (Int × Int)) (ns : List Int), (∀ c ∈ cs, inN ns.length c) → ns.length < 1099511627776 → (∀ y ∈ ns, 0 ≤ y ∧ y + cs.length < 1099511627776) →
    ∃ ns', run18 ns cs = some ns' ∧ ns'.length = ns.length ∧ ∀ (i : Nat) (h : i < ns.length) (h' : i < ns'.length), ns'[i] = ns[i] + cover cs i
  | [], ns, _, _, _ => ⟨ns, rfl, rfl, fun i h h' => by simp [cover]⟩
  | c :: cs, ns, hc, hl, hy => by
    have hok : okB ns c = true := okB_of (hc c List.mem_cons_self) hl fun y h => by
      have := hy y h
      simp only [List.length_cons] at this
      omega
    have hlen := bump_len ns c
    obtain ⟨ns', h1, h2, h3⟩ := run18_eq cs (bump ns c) (fun d hd => by rw [hlen]; exact hc d (List.mem_cons_of_mem _ hd)) (by rw [hlen]; exact hl) (fun y h => by
      obtain ⟨i, hi, rfl⟩ := List.getElem_of_mem h
      rw [bump_get]
      have hi' : i < ns.length := by rw [← hlen]; exact hi
      have := hy ns[i] (List.getElem_mem hi')
      have := one1_le c i
      simp only [List.length_cons] at *
      omega)
    refine ⟨ns', ?_, by rw [h2, hlen], fun i h h' => ?_⟩
    · simp only [run18, hok, cond_true]; exact h1
    · rw [h3 i (by rw [hlen]; exact h) h', bump_get]
      simp only [cover]
      omega

/-- Rows that may be: as ranked says. -/
theorem bad_no {n en : Int} {c : Int × Int} (hn : n ≤ 1099511627776) (he : -1 ≤ en) (h : bad90 n en c = false) : 1 ≤ c.2 ∧ en < c.1 ∧ c.1 < n ∧ c.1 + c.2 ≤ n := by
  simp only [bad90, Bool.or_eq_false_iff, decide_eq_false_iff_not] at h
  obtain ⟨h1, h2, h3, h4⟩ := h
  rw [IntWalk.i64_in _ (by omega)] at h4
  omega
theorem nx_eq {n : Int} {en : Int} {c : Int × Int} (hn : n ≤ 1099511627776) (h0 : 0 ≤ c.1 + c.2) (h : c.1 + c.2 ≤ n) : nx90 en c = c.1 + c.2 := IntWalk.i64_in _ (by omega)

theorem gaps_in {n : Nat} (hn : n ≤ 512) : ∀ (cs : List (Int × Int)) (en a : Int), -1 ≤ en → 0 ≤ a → a ≤ en + 1 → a ≤ (n : Int) → scanB (bad90 (n : Int)) nx90 en cs = true →
    (∀ c ∈ cs, inN n c) ∧ (∀ c ∈ gapsL (n : Int) a cs, inN n c) ∧ (gapsL (n : Int) a cs).length ≤ cs.length + 1 ∧ (∀ i : Int, cover cs i + cover (gapsL (n : Int) a cs) i = if a ≤ i ∧ i < (n : Int) then 1 else 0) ∧ apart (gapsL (n : Int) a cs) = true ∧
      (∀ c r, gapsL (n : Int) a cs = c :: r → a ≤ c.1)
  | [], en, a, he, h0, ha, han, hs => by
    simp only [gapsL]
    by_cases h : a < (n : Int)
    · rw [decide_eq_true h]
      have hw : IntKind.i64.wrap ((n : Int) - a) = (n : Int) - a := IntWalk.i64_in _ (by omega)
      rw [hw]
      refine ⟨fun c hc => (by cases hc), fun c hc => ?_, by simp, fun i => ?_, rfl, fun c r hr => ?_⟩
      · simp only [cond_true, List.mem_singleton] at hc
        subst hc
        exact ⟨h0, by show 0 ≤ (n : Int) - a; omega, by show a + ((n : Int) - a) ≤ n; omega⟩
      · simp only [cond_true, cover, one1]
        by_cases h1 : a ≤ i ∧ i < (n : Int)
        · rw [if_pos h1, if_pos (by omega)]; rfl
        · rw [if_neg h1, if_neg (by omega)]; rfl
      · injection hr with hr1 hr2
        subst hr1
        exact Int.le_refl _
    · rw [decide_eq_false h]
      refine ⟨fun c hc => (by cases hc), fun c hc => (by cases hc), by simp, fun i => ?_, rfl, fun c r hr => (by cases hr)⟩
      rw [if_neg (by omega)]; rfl
  | c :: cs, en, a, he, h0, ha, han, hs => by
    simp only [scanB, Bool.and_eq_true, Bool.not_eq_true'] at hs
    obtain ⟨hb, hs⟩ := hs
    obtain ⟨b1, b2, b3, b4⟩ := bad_no (by omega) he hb
    rw [nx_eq (n := (n : Int)) (by omega) (by omega) b4] at hs
    obtain ⟨i1, i2, i3, i4, i5, i6⟩ := gaps_in hn cs (c.1 + c.2) (c.1 + c.2) (by omega) (by omega) (by omega) b4 hs
    have hw1 : IntKind.i64.wrap (c.1 + c.2) = c.1 + c.2 := IntWalk.i64_in _ (by omega)
    have hw2 : IntKind.i64.wrap (c.1 - a) = c.1 - a := IntWalk.i64_in _ (by omega)
    have hc : inN n c := ⟨by omega, by omega, b4⟩
    simp only [gapsL]
    rw [hw1, hw2]
    by_cases h : a < c.1
    · rw [decide_eq_true h]
      simp only [cond_true]
      refine ⟨fun d hd => ?_, fun d hd => ?_, by simp only [List.length_cons]; omega, fun i => ?_, ?_, fun d r hr => ?_⟩
      · rcases List.mem_cons.1 hd with rfl | hd
        · exact hc
        · exact i1 d hd
      · rcases List.mem_cons.1 hd with rfl | hd
        · exact ⟨h0, by show 0 ≤ c.1 - a; omega, by show a + (c.1 - a) ≤ n; omega⟩
        · exact i2 d hd
      · simp only [cover]
        have := i4 i
        unfold one1
        by_cases q1 : a ≤ i ∧ i < (n : Int)
        · rw [if_pos q1]
          by_cases q2 : c.1 ≤ i ∧ i < c.1 + c.2
          · rw [if_pos q2, if_neg (by show ¬ (a ≤ i ∧ i < a + (c.1 - a)); omega)]
            rw [if_neg (by omega)] at this
            omega
          · rw [if_neg q2]
            by_cases q3 : c.1 + c.2 ≤ i ∧ i < (n : Int)
            · rw [if_pos q3] at this
              rw [if_neg (by show ¬ (a ≤ i ∧ i < a + (c.1 - a)); omega)]
              omega
            · rw [if_neg q3] at this
              rw [if_pos (by show a ≤ i ∧ i < a + (c.1 - a); omega)]
              omega
        · rw [if_neg q1]
          rw [if_neg (by omega)] at this
          rw [if_neg (by omega), if_neg (by show ¬ (a ≤ i ∧ i < a + (c.1 - a)); omega)]
          omega
      · cases hg : gapsL (n : Int) (c.1 + c.2) cs with
        | nil => rfl
        | cons d r =>
          have h6 := i6 d r hg
          rw [hg] at i5
          show (!decide (d.1 ≤ IntKind.i64.wrap (a + (c.1 - a))) && apart (d :: r)) = true
          rw [i5, IntWalk.i64_in _ (by omega), decide_eq_false (by omega)]
          rfl
      · injection hr with hr1 hr2
        subst hr1
        exact Int.le_refl _
    · have hac : a = c.1 := by omega
      rw [decide_eq_false h]
      simp only [cond_false]
      refine ⟨fun d hd => ?_, i2, by simp only [List.length_cons]; omega, fun i => ?_, i5, fun d r hr => ?_⟩
      · rcases List.mem_cons.1 hd with rfl | hd
        · exact hc
        · exact i1 d hd
      · simp only [cover]
        have := i4 i
        unfold one1
        by_cases q1 : a ≤ i ∧ i < (n : Int)
        · rw [if_pos q1]
          by_cases q2 : c.1 ≤ i ∧ i < c.1 + c.2
          · rw [if_pos q2]
            rw [if_neg (by omega)] at this
            omega
          · rw [if_neg q2]
            rw [if_pos (by omega)] at this
            omega
        · rw [if_neg q1]
          rw [if_neg (by omega)] at this
          rw [if_neg (by omega)]
          omega
      · have := i6 d r hr
        omega
end Go.Te
set_option linter.unusedVariables false
set_option linter.unusedSimpArgs false
set_option maxRecDepth 100000
namespace Go.Te
open Go.RowKit Go.Proofs

/-! ### heliographlaw14.SenderGaps: the law -/
theorem ones_of : ∀ (ns : List Int), (∀ y ∈ ns, y = 1) → ones ns = true
  | [], _ => rfl
  | y :: ns, h => by
    have h1 : y = 1 := h y List.mem_cons_self
    have ih := ones_of ns fun z hz => h z (List.mem_cons_of_mem _ hz)
    unfold ones at ih ⊢
    simp only [scanB, h1]
    rw [ih]
    rfl
theorem tail8_true (n : Nat) (hn : n ≤ 512) (G : List (Int × Int)) (hG : G.length ≤ 300) (hs : scanB (bad90 (n : Int)) nx90 (-1) G = true) : tail8 (gapsL (n : Int) 0 G) G n = some (.d .bool true, []) := by
  obtain ⟨i1, i2, i3, i4, i5, _⟩ := gaps_in hn G (-1) 0 (by omega) (by omega) (by omega) (by omega) hs
  obtain ⟨ns', r1, r2, r3⟩ := run18_eq (G ++ gapsL (n : Int) 0 G) (List.replicate n 0) (fun c hc => by
    rw [List.length_replicate]
    rcases List.mem_append.1 hc with hc | hc
    · exact i1 c hc
    · exact i2 c hc) (by rw [List.length_replicate]; omega) (fun y hy => by
      have hy0 : y = 0 := List.eq_of_mem_replicate hy
      subst hy0
      rw [List.length_append]
      omega)
  have hns : ∀ y ∈ ns', y = 1 := by
    intro y hy
    obtain ⟨i, hi, rfl⟩ := List.getElem_of_mem hy
    have hi' : i < (List.replicate n (0 : Int)).length := by rw [← r2]; exact hi
    rw [r3 i hi' hi, cover_append, i4]
    rw [List.length_replicate] at hi'
    rw [if_pos (by omega), List.getElem_replicate]
    rfl
  have d1 : decide (0 + G.length < 1099511627776 / (16 + 1)) = true := decide_eq_true (by omega)
  have d2 : decide (G.length + (gapsL (n : Int) 0 G).length < 1099511627776 / (16 + 1)) = true := decide_eq_true (by omega)
  have d3 : ok18 (gapsL (n : Int) 0 G, List.replicate n 0, G ++ gapsL (n : Int) 0 G, ((G ++ gapsL (n : Int) 0 G).length : Int), 0) = true := by
    simp only [ok18, r1, Option.isSome_some, Bool.and_true, decide_eq_true_eq]
    exact ⟨trivial, trivial, by rw [List.length_append]; omega⟩
  have hr : (run18 (List.replicate n 0) (G ++ gapsL (n : Int) 0 G)).getD [] = ns' := by rw [r1]; rfl
  have d4 : ok34' (gapsL (n : Int) 0 G, ns', (ns'.length : Int), 0) = true := by
    simp only [ok34', decide_eq_true_eq]
    exact ⟨trivial, trivial, by rw [r2, List.length_replicate]; omega⟩
  have d5 : ok46 (gapsL (n : Int) 0 G, 1) = true := by
    simp only [ok46, decide_eq_true_eq]
    exact ⟨trivial, by omega⟩
  unfold tail8
  rw [d1, d2, d3, hr, d4, ones_of ns' hns, d5, i5]
  rfl

theorem pl8 (B : List Int) (G : List (Int × Int)) (F : Option Int) (L : Option (List (Int × Int))) (hF : F.isSome = true) (hL : L = bif F.isSome then (bif F.getD (Int.ofNat 0) != 0 then some [] else f104 B G) else none) (hG : G.length ≤ 300)
    (h0 : F = some 0 → B.length ≤ 512 ∧ scanB (bad90 (B.length : Int)) nx90 (-1) G = true) :
    (bif L.isSome then (bif F.isSome then (bif F.getD (Int.ofNat 0) != 0 then some (.d .bool (((L.getD default).length : Int) == 0), []) else
      bif mk8 B then tail8 (L.getD default) G ((B.length : Int)).toNat else none) else none) else none : Option (TV × List Obj)) = some (.d .bool true, []) := by
  obtain ⟨v, rfl⟩ := Option.isSome_iff_exists.1 hF
  simp only [Option.isSome_some, cond_true, Option.getD_some] at hL ⊢
  by_cases hv : v = 0
  · subst hv
    obtain ⟨hB, hs⟩ := h0 rfl
    obtain ⟨_, _, i3, _⟩ := gaps_in hB G (-1) 0 (by omega) (by omega) (by omega) (by omega) hs
    have e : ((0 : Int) != 0) = false := rfl
    rw [e] at hL ⊢
    have e2 : f104 B G = some (gapsL (B.length : Int) 0 G) := by
      unfold f104
      rw [decide_eq_true (by omega : G.length < 1099511627776), decide_eq_true (by omega : (gapsL (B.length : Int) 0 G).length < 1099511627776 / (16 + 1))]
      rfl
    simp only [cond_false] at hL ⊢
    rw [e2] at hL
    subst hL
    have e3 : mk8 B = true := by
      simp only [mk8, Bool.and_eq_true, decide_eq_true_eq]
      omega
    rw [e3, Int.toNat_natCast]
    exact tail8_true B.length hB G hG hs
  · have e : (v != 0) = true := by simpa using hv
    rw [e] at hL ⊢
    simp only [cond_true] at hL
    subst hL
    rfl

noncomputable def con8 : Con := Con.all (dec1 true ti57.lv) fun _ => .d .bool true
theorem okL_short (a : Snd) : okSegT (lastT (short29 a)) = true := by
  have h := ok30_short a
  simp only [ok30, Bool.and_eq_true] at h
  exact h.2.2.2
theorem okc8 : ConOK Try.prog 8 con8 := by
  refine con_all E8_ok.toEnvOK (callAt_ok E8_ok 0) Try.func8 (by kernel_rfl) (by kernel_rfl) pcs8 fun args a h => ?_
  rw [dec1_eq h]
  refine (ev8 a).trans ?_
  have h2 : (sndG (short29 a)).length ≤ 300 := sh_len 300 (sndG a)
  have h3 : (sndS (short29 a)).length ≤ 40 := sh_len 40 (sndS a)
  exact pl8 (sndB (short29 a)) (sndG (short29 a)) (F27 (short29 a)) (F36 (short29 a)) (tot27 (short29 a) (decide_eq_true (show (sndG (short29 a)).length < 1099511627776 by omega)) (okL_short a) (decide_eq_true (show (sndS (short29 a)).length < 1099511627776 by omega))) rfl h2 fun hz => by
    obtain ⟨q1, q2⟩ := zero27 (short29 a) hz
    exact ⟨block82 q1, q2⟩
noncomputable def sr8 : SemRow Try.prog := ⟨8, Try.f8, ⟨Try.func8, by kernel_rfl⟩, con8, okc8, Con.all_natural _ _⟩
noncomputable def L8 : Env := specEnv (tyAt tab) [sr8] (fun _ _ => none)
theorem L8_ok : EnvAll Try.prog L8 := specEnv_ok tOk (by kernel_rfl)
theorem law8 (a : Snd) : callAt L8 0 8 [argT true ti57.lv a] [] isTrue = some () := by kernel_rfl
end Go.Te
