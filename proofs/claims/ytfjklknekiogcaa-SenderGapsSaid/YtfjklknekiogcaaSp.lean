/-
  heliographlaw14.SenderGaps: what is claimed and what is not have, together, each byte once.
  No conditions: every input that the statement lets in. Part Sp: own work.
-/
import Derived.Test.YtfjklknekiogcaaTeFuel
import Derived.Test.YtfjklknekiogcaaTab
import Derived.Test.YtfjklknekiogcaaWk
import Derived.Laws.Strings
set_option linter.unusedVariables false
set_option linter.unusedSimpArgs false
set_option maxRecDepth 100000
namespace Go.Te
open Go.RowKit Go.Proofs

noncomputable def SB : Env := specEnv (P := Try.prog) (tyAt tab) [] (fun _ _ => none)
theorem SB_ok : EnvAll Try.prog SB := specEnv_ok tOk (by kernel_rfl)
noncomputable abbrev sb : (R : Type) → Nat → List TV → List Obj → (TV → List Obj → Option R) → Option R := fun R => callAt (R := R) SB 0
abbrev j64 (n : Int) : TV := .d (.int .i64) n
theorem two_none (E : Env) (h : ∀ f k, E.piece f k = none) (f : Nat) : ∀ k, E.piece f k = none := h f

/-! slices.Equal -/
def eqI (a b : List Int) : Bool := decide (a = b)
def eqC (a b : List (Int × Int)) : Bool := decide (a = b)
def outEq : TExit → List Nat := fun e => match e with
  | .ret => [4]
  | _ => []
def decEq4 (es : List Leaf) (vals : List TV) (objs : List Obj) : Option (List (Row es) × List (Row es) × Int × Int) :=
  match vals, objs with
  | [.d (.sl ea) a, .d (.sl eb) b, .d (.int .i64) m, .d (.int .i64) i], [] => (rowCast ea es a).bind fun a => (rowCast eb es b).bind fun b => some (a, b, m, i)
  | _, _ => none
theorem decEq4_eq {es : List Leaf} {vals : List TV} {objs : List Obj} {s : List (Row es) × List (Row es) × Int × Int} (h : decEq4 es vals objs = some s) : vals = [.d (.sl es) s.1, .d (.sl es) s.2.1, j64 s.2.2.1, j64 s.2.2.2] ∧ objs = [] := by
  unfold decEq4 at h
  split at h
  · rename_i ea a eb b m i
    obtain ⟨a', ha, h⟩ := Option.bind_eq_some_iff.1 h
    obtain ⟨b', hb, h⟩ := Option.bind_eq_some_iff.1 h
    cases h
    obtain ⟨e1, q1⟩ := rowCast_ok ha
    obtain ⟨e2, q2⟩ := rowCast_ok hb
    subst e1; subst e2
    have q1 : a = a' := q1
    have q2 : b = b' := q2
    subst q1; subst q2
    exact ⟨rfl, rfl⟩
  · cases h

def ok92 (s : List Int × List Int × Int × Int) : Bool := decide (s.1.length = s.2.1.length ∧ s.2.2.1 = (s.1.length : Int) ∧ s.2.2.2 = 0 ∧ s.1.length < 1099511627776)
noncomputable def piece92 : Piece := Piece.two [0, 1, 12, 13] outEq (decEq4 [.int .u8]) ok92 (fun s => eqI s.1 s.2.1) (.exit 0) .ret (fun _ => ([], [])) (fun _ => ([.d .bool false], []))
theorem step92 {R : Type} (a b : List Int) (m i : Int) (K : TExit → List TV → List Obj → Option R) : evStep SB sb 92 26 0 (loopAt Try.f92.body 8) piece92 [.d (.sl [.int .u8]) a, .d (.sl [.int .u8]) b, j64 m, j64 i] [] K =
    bif decide (i < m) then bif decide (0 ≤ i) then a[i.toNat]?.bind fun y => bif decide (0 ≤ i) then b[i.toNat]?.bind fun y1 => bif (fun x y => x != y) y y1 then K .ret [.d .bool false] [] else K .normal [.d (.sl [.int .u8]) a, .d (.sl [.int .u8]) b, j64 m, j64 (IntKind.i64.wrap (i + 1))] [] else none else none else K (.exit 0) [] [] := by kernel_rfl
theorem lp92 (a b : List Int) (m i : Int) (hok : ok92 (a, b, m, i) = true) : ∃ n, evLoop SB sb 92 26 0 (loopAt Try.f92.body 8) piece92 n [.d (.sl [.int .u8]) a, .d (.sl [.int .u8]) b, j64 m, j64 i] [] = some (bif eqI a b then (.exit 0, ([], [])) else (.ret, ([.d .bool false], []))) := by
  simp only [ok92, decide_eq_true_eq] at hok
  obtain ⟨h1, h2, h3, h4⟩ := hok
  subst h2; subst h3
  exact ⟨_, eqLoop a b (fun x y => x != y) (fun x y => by by_cases h : x = y <;> simp [h]) (fun i => [.d (.sl [.int .u8]) a, .d (.sl [.int .u8]) b, j64 (a.length : Int), j64 i]) [] ([.d .bool false], []) ([], []) 0 h1 h4 (fun i K => step92 a b _ i K) a.length 0 (Nat.sub_zero _) (Nat.zero_le _)⟩
theorem pok92 (ρ : Option Nat) : PieceOK Try.prog ρ 26 (.loop (loopAt Try.f92.body 8)) piece92 := by
  refine two_ok (fid := 92) SB_ok (pieces_none (fun _ => rfl) _) fun vals objs s hs hok => ?_
  obtain ⟨a, b, m, i⟩ := s
  obtain ⟨e1, e2⟩ := decEq4_eq hs
  subst e1; subst e2
  exact lp92 a b m i hok
noncomputable def E92 : Env := specEnv (P := Try.prog) (tyAt tab) [] (fun f k => bif Nat.beq f 92 && Nat.beq k 8 then some piece92 else none)
theorem E92_ok : EnvAll Try.prog E92 := specEnv_ok tOk (by kernel_rfl)
theorem nodes92 : nodes (nbody Try.f92.body) = [(8, .loop (loopAt Try.f92.body 8))] := by kernel_rfl
theorem pcs92 (c : Code) (hc : Try.f92.body = some c) : PiecesOK Try.prog E92 none 92 Try.f92.ntmps c := by
  have hn : nodes c = [(8, .loop (loopAt Try.f92.body 8))] := by rw [← nodes92, hc]; rfl
  have hr : rangeFlat false (nbody Try.f92.body) = true := by kernel_rfl
  rw [hc] at hr
  refine pieces_tab (fun c' => ?_) c hr fun x hx p hp => ?_
  · have h2 := condKey_odd c'
    show (bif Nat.beq 92 92 && Nat.beq (condKey c') 8 then some piece92 else none) = none
    cases hb : Nat.beq (condKey c') 8 with
    | true => rw [Nat.eq_of_beq_eq_true hb] at h2; cases h2
    | false => rfl
  · rw [hn] at hx
    simp only [List.mem_singleton] at hx
    subst hx
    have hp : some piece92 = some p := hp
    cases hp
    exact pok92 none
noncomputable def con92 : Con := Con.part (dec2 false [.sl [.int .u8]] false [.sl [.int .u8]]) (fun a => decide (List.length (α := Int) a.1 < 1099511627776)) (fun a => .d .bool (eqI a.1 a.2))
theorem ev92 (a b : List Int) : evFn (R := TV × List Obj) E92 (fun R => callAt (R := R) E92 0) 92 Try.f92 [.d (.sl [.int .u8]) a, .d (.sl [.int .u8]) b] [] (fun v o => some (v, o)) =
    bif (a.length : Int) != (b.length : Int) then some (.d .bool false, []) else bif ok92 (a, b, (a.length : Int), 0) then (bif eqI a b then some (.d .bool true, []) else some (.d .bool false, [])) else none := by kernel_rfl
theorem pl92 (a b : List Int) (hok : a.length < 1099511627776) : (bif (a.length : Int) != (b.length : Int) then some (.d .bool false, []) else bif ok92 (a, b, (a.length : Int), 0) then (bif eqI a b then some (.d .bool true, []) else some (.d .bool false, [])) else none : Option (TV × List Obj)) = some (.d .bool (eqI a b), []) := by
  by_cases hl : a.length = b.length
  · have h1 : ((a.length : Int) != (b.length : Int)) = false := by simp [hl]
    have h2 : ok92 (a, b, (a.length : Int), 0) = true := by
      simp only [ok92, decide_eq_true_eq]
      exact ⟨hl, trivial, trivial, hok⟩
    rw [h1, h2]
    simp only [cond_false, cond_true]
    cases eqI a b <;> rfl
  · have h1 : ((a.length : Int) != (b.length : Int)) = true := by
      simp only [bne_iff_ne, ne_eq]; omega
    have h2 : eqI a b = false := by
      simp only [eqI, decide_eq_false_iff_not]
      exact fun e => hl (congrArg List.length e)
    rw [h1, h2]
    rfl
theorem okc92 : ConOK Try.prog 92 con92 := by
  refine con_part E92_ok Try.func92 (by kernel_rfl) (by kernel_rfl) pcs92 fun args a h hok => ?_
  obtain ⟨a, b⟩ := a
  rw [dec2_eq h]
  exact (ev92 a b).trans (pl92 a b (of_decide_eq_true hok))

def ok95 (s : List (Int × Int) × List (Int × Int) × Int × Int) : Bool := decide (s.1.length = s.2.1.length ∧ s.2.2.1 = (s.1.length : Int) ∧ s.2.2.2 = 0 ∧ s.1.length < 1099511627776)
noncomputable def piece95 : Piece := Piece.two [0, 1, 12, 13] outEq (decEq4 [.int .i64, .int .i64]) ok95 (fun s => eqC s.1 s.2.1) (.exit 0) .ret (fun _ => ([], [])) (fun _ => ([.d .bool false], []))
theorem step95 {R : Type} (a b : List (Int × Int)) (m i : Int) (K : TExit → List TV → List Obj → Option R) : evStep SB sb 95 26 0 (loopAt Try.f95.body 8) piece95 [.d (.sl [.int .i64, .int .i64]) a, .d (.sl [.int .i64, .int .i64]) b, j64 m, j64 i] [] K =
    bif decide (i < m) then bif decide (0 ≤ i) then a[i.toNat]?.bind fun y => bif decide (0 ≤ i) then b[i.toNat]?.bind fun y1 => bif (fun x y => !(x.1 == y.1 && (x.2 == y.2 && true))) y y1 then K .ret [.d .bool false] [] else K .normal [.d (.sl [.int .i64, .int .i64]) a, .d (.sl [.int .i64, .int .i64]) b, j64 m, j64 (IntKind.i64.wrap (i + 1))] [] else none else none else K (.exit 0) [] [] := by kernel_rfl
theorem lp95 (a b : List (Int × Int)) (m i : Int) (hok : ok95 (a, b, m, i) = true) : ∃ n, evLoop SB sb 95 26 0 (loopAt Try.f95.body 8) piece95 n [.d (.sl [.int .i64, .int .i64]) a, .d (.sl [.int .i64, .int .i64]) b, j64 m, j64 i] [] = some (bif eqC a b then (.exit 0, ([], [])) else (.ret, ([.d .bool false], []))) := by
  simp only [ok95, decide_eq_true_eq] at hok
  obtain ⟨h1, h2, h3, h4⟩ := hok
  subst h2; subst h3
  exact ⟨_, eqLoop a b (fun x y => !(x.1 == y.1 && (x.2 == y.2 && true))) (fun x y => by obtain ⟨a1, a2⟩ := x; obtain ⟨b1, b2⟩ := y; by_cases h1 : a1 = b1 <;> by_cases h2 : a2 = b2 <;> simp [h1, h2]) (fun i => [.d (.sl [.int .i64, .int .i64]) a, .d (.sl [.int .i64, .int .i64]) b, j64 (a.length : Int), j64 i]) [] ([.d .bool false], []) ([], []) 0 h1 h4 (fun i K => step95 a b _ i K) a.length 0 (Nat.sub_zero _) (Nat.zero_le _)⟩
theorem pok95 (ρ : Option Nat) : PieceOK Try.prog ρ 26 (.loop (loopAt Try.f95.body 8)) piece95 := by
  refine two_ok (fid := 95) SB_ok (pieces_none (fun _ => rfl) _) fun vals objs s hs hok => ?_
  obtain ⟨a, b, m, i⟩ := s
  obtain ⟨e1, e2⟩ := decEq4_eq hs
  subst e1; subst e2
  exact lp95 a b m i hok
noncomputable def E95 : Env := specEnv (P := Try.prog) (tyAt tab) [] (fun f k => bif Nat.beq f 95 && Nat.beq k 8 then some piece95 else none)
theorem E95_ok : EnvAll Try.prog E95 := specEnv_ok tOk (by kernel_rfl)
theorem nodes95 : nodes (nbody Try.f95.body) = [(8, .loop (loopAt Try.f95.body 8))] := by kernel_rfl
theorem pcs95 (c : Code) (hc : Try.f95.body = some c) : PiecesOK Try.prog E95 none 95 Try.f95.ntmps c := by
  have hn : nodes c = [(8, .loop (loopAt Try.f95.body 8))] := by rw [← nodes95, hc]; rfl
  have hr : rangeFlat false (nbody Try.f95.body) = true := by kernel_rfl
  rw [hc] at hr
  refine pieces_tab (fun c' => ?_) c hr fun x hx p hp => ?_
  · have h2 := condKey_odd c'
    show (bif Nat.beq 95 95 && Nat.beq (condKey c') 8 then some piece95 else none) = none
    cases hb : Nat.beq (condKey c') 8 with
    | true => rw [Nat.eq_of_beq_eq_true hb] at h2; cases h2
    | false => rfl
  · rw [hn] at hx
    simp only [List.mem_singleton] at hx
    subst hx
    have hp : some piece95 = some p := hp
    cases hp
    exact pok95 none
noncomputable def con95 : Con := Con.part (dec2 false [.sl [.int .i64, .int .i64]] false [.sl [.int .i64, .int .i64]]) (fun a => decide (List.length (α := (Int × Int)) a.1 < 1099511627776)) (fun a => .d .bool (eqC a.1 a.2))
theorem ev95 (a b : List (Int × Int)) : evFn (R := TV × List Obj) E95 (fun R => callAt (R := R) E95 0) 95 Try.f95 [.d (.sl [.int .i64, .int .i64]) a, .d (.sl [.int .i64, .int .i64]) b] [] (fun v o => some (v, o)) =
    bif (a.length : Int) != (b.length : Int) then some (.d .bool false, []) else bif ok95 (a, b, (a.length : Int), 0) then (bif eqC a b then some (.d .bool true, []) else some (.d .bool false, [])) else none := by kernel_rfl
theorem pl95 (a b : List (Int × Int)) (hok : a.length < 1099511627776) : (bif (a.length : Int) != (b.length : Int) then some (.d .bool false, []) else bif ok95 (a, b, (a.length : Int), 0) then (bif eqC a b then some (.d .bool true, []) else some (.d .bool false, [])) else none : Option (TV × List Obj)) = some (.d .bool (eqC a b), []) := by
  by_cases hl : a.length = b.length
  · have h1 : ((a.length : Int) != (b.length : Int)) = false := by simp [hl]
    have h2 : ok95 (a, b, (a.length : Int), 0) = true := by
      simp only [ok95, decide_eq_true_eq]
      exact ⟨hl, trivial, trivial, hok⟩
    rw [h1, h2]
    simp only [cond_false, cond_true]
    cases eqC a b <;> rfl
  · have h1 : ((a.length : Int) != (b.length : Int)) = true := by
      simp only [bne_iff_ne, ne_eq]; omega
    have h2 : eqC a b = false := by
      simp only [eqC, decide_eq_false_iff_not]
      exact fun e => hl (congrArg List.length e)
    rw [h1, h2]
    rfl
theorem okc95 : ConOK Try.prog 95 con95 := by
  refine con_part E95_ok Try.func95 (by kernel_rfl) (by kernel_rfl) pcs95 fun args a h hok => ?_
  obtain ⟨a, b⟩ := a
  rw [dec2_eq h]
  exact (ev95 a b).trans (pl95 a b (of_decide_eq_true hok))

def ok96 (s : List Int × List Int × Int × Int) : Bool := decide (s.1.length = s.2.1.length ∧ s.2.2.1 = (s.1.length : Int) ∧ s.2.2.2 = 0 ∧ s.1.length < 1099511627776)
noncomputable def piece96 : Piece := Piece.two [0, 1, 12, 13] outEq (decEq4 [.int .u32]) ok96 (fun s => eqI s.1 s.2.1) (.exit 0) .ret (fun _ => ([], [])) (fun _ => ([.d .bool false], []))
theorem step96 {R : Type} (a b : List Int) (m i : Int) (K : TExit → List TV → List Obj → Option R) : evStep SB sb 96 26 0 (loopAt Try.f96.body 8) piece96 [.d (.sl [.int .u32]) a, .d (.sl [.int .u32]) b, j64 m, j64 i] [] K =
    bif decide (i < m) then bif decide (0 ≤ i) then a[i.toNat]?.bind fun y => bif decide (0 ≤ i) then b[i.toNat]?.bind fun y1 => bif (fun x y => x != y) y y1 then K .ret [.d .bool false] [] else K .normal [.d (.sl [.int .u32]) a, .d (.sl [.int .u32]) b, j64 m, j64 (IntKind.i64.wrap (i + 1))] [] else none else none else K (.exit 0) [] [] := by kernel_rfl
theorem lp96 (a b : List Int) (m i : Int) (hok : ok96 (a, b, m, i) = true) : ∃ n, evLoop SB sb 96 26 0 (loopAt Try.f96.body 8) piece96 n [.d (.sl [.int .u32]) a, .d (.sl [.int .u32]) b, j64 m, j64 i] [] = some (bif eqI a b then (.exit 0, ([], [])) else (.ret, ([.d .bool false], []))) := by
  simp only [ok96, decide_eq_true_eq] at hok
  obtain ⟨h1, h2, h3, h4⟩ := hok
  subst h2; subst h3
  exact ⟨_, eqLoop a b (fun x y => x != y) (fun x y => by by_cases h : x = y <;> simp [h]) (fun i => [.d (.sl [.int .u32]) a, .d (.sl [.int .u32]) b, j64 (a.length : Int), j64 i]) [] ([.d .bool false], []) ([], []) 0 h1 h4 (fun i K => step96 a b _ i K) a.length 0 (Nat.sub_zero _) (Nat.zero_le _)⟩
theorem pok96 (ρ : Option Nat) : PieceOK Try.prog ρ 26 (.loop (loopAt Try.f96.body 8)) piece96 := by
  refine two_ok (fid := 96) SB_ok (pieces_none (fun _ => rfl) _) fun vals objs s hs hok => ?_
  obtain ⟨a, b, m, i⟩ := s
  obtain ⟨e1, e2⟩ := decEq4_eq hs
  subst e1; subst e2
  exact lp96 a b m i hok
noncomputable def E96 : Env := specEnv (P := Try.prog) (tyAt tab) [] (fun f k => bif Nat.beq f 96 && Nat.beq k 8 then some piece96 else none)
theorem E96_ok : EnvAll Try.prog E96 := specEnv_ok tOk (by kernel_rfl)
theorem nodes96 : nodes (nbody Try.f96.body) = [(8, .loop (loopAt Try.f96.body 8))] := by kernel_rfl
theorem pcs96 (c : Code) (hc : Try.f96.body = some c) : PiecesOK Try.prog E96 none 96 Try.f96.ntmps c := by
  have hn : nodes c = [(8, .loop (loopAt Try.f96.body 8))] := by rw [← nodes96, hc]; rfl
  have hr : rangeFlat false (nbody Try.f96.body) = true := by kernel_rfl
  rw [hc] at hr
  refine pieces_tab (fun c' => ?_) c hr fun x hx p hp => ?_
  · have h2 := condKey_odd c'
    show (bif Nat.beq 96 96 && Nat.beq (condKey c') 8 then some piece96 else none) = none
    cases hb : Nat.beq (condKey c') 8 with
    | true => rw [Nat.eq_of_beq_eq_true hb] at h2; cases h2
    | false => rfl
  · rw [hn] at hx
    simp only [List.mem_singleton] at hx
    subst hx
    have hp : some piece96 = some p := hp
    cases hp
    exact pok96 none
noncomputable def con96 : Con := Con.part (dec2 false [.sl [.int .u32]] false [.sl [.int .u32]]) (fun a => decide (List.length (α := Int) a.1 < 1099511627776)) (fun a => .d .bool (eqI a.1 a.2))
theorem ev96 (a b : List Int) : evFn (R := TV × List Obj) E96 (fun R => callAt (R := R) E96 0) 96 Try.f96 [.d (.sl [.int .u32]) a, .d (.sl [.int .u32]) b] [] (fun v o => some (v, o)) =
    bif (a.length : Int) != (b.length : Int) then some (.d .bool false, []) else bif ok96 (a, b, (a.length : Int), 0) then (bif eqI a b then some (.d .bool true, []) else some (.d .bool false, [])) else none := by kernel_rfl
theorem pl96 (a b : List Int) (hok : a.length < 1099511627776) : (bif (a.length : Int) != (b.length : Int) then some (.d .bool false, []) else bif ok96 (a, b, (a.length : Int), 0) then (bif eqI a b then some (.d .bool true, []) else some (.d .bool false, [])) else none : Option (TV × List Obj)) = some (.d .bool (eqI a b), []) := by
  by_cases hl : a.length = b.length
  · have h1 : ((a.length : Int) != (b.length : Int)) = false := by simp [hl]
    have h2 : ok96 (a, b, (a.length : Int), 0) = true := by
      simp only [ok96, decide_eq_true_eq]
      exact ⟨hl, trivial, trivial, hok⟩
    rw [h1, h2]
    simp only [cond_false, cond_true]
    cases eqI a b <;> rfl
  · have h1 : ((a.length : Int) != (b.length : Int)) = true := by
      simp only [bne_iff_ne, ne_eq]; omega
    have h2 : eqI a b = false := by
      simp only [eqI, decide_eq_false_iff_not]
      exact fun e => hl (congrArg List.length e)
    rw [h1, h2]
    rfl
theorem okc96 : ConOK Try.prog 96 con96 := by
  refine con_part E96_ok Try.func96 (by kernel_rfl) (by kernel_rfl) pcs96 fun args a h hok => ?_
  obtain ⟨a, b⟩ := a
  rw [dec2_eq h]
  exact (ev96 a b).trans (pl96 a b (of_decide_eq_true hok))
end Go.Te
set_option linter.unusedVariables false
set_option linter.unusedSimpArgs false
set_option maxRecDepth 100000
namespace Go.Te
open Go.RowKit Go.Proofs

noncomputable def sr92 : SemRow Try.prog := ⟨92, Try.f92, ⟨Try.func92, by kernel_rfl⟩, con92, okc92, Con.part_natural _ _ _⟩
noncomputable def sr95 : SemRow Try.prog := ⟨95, Try.f95, ⟨Try.func95, by kernel_rfl⟩, con95, okc95, Con.part_natural _ _ _⟩
noncomputable def sr96 : SemRow Try.prog := ⟨96, Try.f96, ⟨Try.func96, by kernel_rfl⟩, con96, okc96, Con.part_natural _ _ _⟩
abbrev Seg := Row ti54.lv
abbrev Snd := Row ti57.lv
/-! The fields that are no slices. -/
noncomputable def con134 : Con := Con.all (dec1 true ti54.lv) fun a => argT true ti187.lv (a.1, a.2.1, a.2.2.2.2.2.1, a.2.2.2.2.2.2.1, a.2.2.2.2.2.2.2.1, a.2.2.2.2.2.2.2.2.1, a.2.2.2.2.2.2.2.2.2.1, a.2.2.1, a.2.2.2.1, a.2.2.2.2.1, a.2.2.2.2.2.2.2.2.2.2.1)
theorem okc134 : ConOK Try.prog 134 con134 := con_all SB_ok.toEnvOK (callAt_ok SB_ok 0) Try.func134 (by kernel_rfl) (by kernel_rfl) (fun c _ => pieces_none (fun _ => rfl) c) fun args a h => by
  rw [dec1_eq h]
  kernel_rfl
noncomputable def sr134 : SemRow Try.prog := ⟨134, Try.f134, ⟨Try.func134, by kernel_rfl⟩, con134, okc134, Con.all_natural _ _⟩
end Go.Te
set_option linter.unusedVariables false
set_option linter.unusedSimpArgs false
set_option maxRecDepth 100000
namespace Go.Te
open Go.RowKit Go.Proofs

def eI (x y : Int) : Bool := x == y
def eB (x y : Bool) : Bool := x == y
def strEq (x y : List Int) : Bool := (strOf x).toList == (strOf y).toList
/-! segment.Same -/
def restSeg (a b : Seg) : Bool := (eI (a.1) (b.1) && (eI (a.2.1) (b.2.1) && (eI (a.2.2.2.2.2.1) (b.2.2.2.2.2.1) && (eI (a.2.2.2.2.2.2.1) (b.2.2.2.2.2.2.1) && (eI (a.2.2.2.2.2.2.2.1) (b.2.2.2.2.2.2.2.1) && (eI (a.2.2.2.2.2.2.2.2.1) (b.2.2.2.2.2.2.2.2.1) && (eI (a.2.2.2.2.2.2.2.2.2.1) (b.2.2.2.2.2.2.2.2.2.1) && (eI (a.2.2.1) (b.2.2.1) && (eI (a.2.2.2.1) (b.2.2.2.1) && (eI (a.2.2.2.2.1) (b.2.2.2.2.1) && (eB (a.2.2.2.2.2.2.2.2.2.2.1) (b.2.2.2.2.2.2.2.2.2.2.1) && true)))))))))))
def segD (a : Seg) : List Int := a.2.2.2.2.2.2.2.2.2.2.2.1
def segC (a : Seg) : List (Int × Int) := a.2.2.2.2.2.2.2.2.2.2.2.2
def eqSeg (a b : Seg) : Bool := restSeg a b && (eqI (segD a) (segD b) && eqC (segC a) (segC b))
def okSeg (a : Seg) : Bool := decide ((segD a).length < 1099511627776) && decide ((segC a).length < 1099511627776)
noncomputable def con97 : Con := Con.part (dec2 true ti54.lv true ti54.lv) (fun p => okSeg p.1) (fun p => .d .bool (eqSeg p.1 p.2))
noncomputable def E97 : Env := specEnv (tyAt tab) [sr92, sr95, sr134] (fun _ _ => none)
theorem E97_ok : EnvAll Try.prog E97 := specEnv_ok tOk (by kernel_rfl)
theorem ev97 (a b : Seg) : evFn (R := TV × List Obj) E97 (fun R => callAt (R := R) E97 0) 97 Try.f97 [argT true ti54.lv a, argT true ti54.lv b] [] (fun v o => some (v, o)) =
    bif restSeg a b then bif decide ((segD a).length < 1099511627776) then bif eqI (segD a) (segD b) then bif decide ((segC a).length < 1099511627776) then some (.d .bool (eqC (segC a) (segC b)), []) else none else some (.d .bool false, []) else none else some (.d .bool false, []) := by kernel_rfl
theorem okc97 : ConOK Try.prog 97 con97 := by
  refine con_part E97_ok Try.func97 (by kernel_rfl) (by kernel_rfl) (fun c _ => pieces_none (fun _ => rfl) c) fun args a h hok => ?_
  rw [dec2_eq h]
  refine (ev97 a.1 a.2).trans ?_
  simp only [okSeg, Bool.and_eq_true] at hok
  rw [hok.1, hok.2]
  simp only [eqSeg, cond_true]
  cases restSeg a.1 a.2 <;> cases eqI (segD a.1) (segD a.2) <;> rfl
noncomputable def sr97 : SemRow Try.prog := ⟨97, Try.f97, ⟨Try.func97, by kernel_rfl⟩, con97, okc97, Con.part_natural _ _ _⟩

/-! heliographref10.Same -/
def chain34 (a b : Seg) : Bool := (eI (a.1) (b.1) && (eI (a.2.1) (b.2.1) && (eI (a.2.2.1) (b.2.2.1) && (eI (a.2.2.2.1) (b.2.2.2.1) && (eI (a.2.2.2.2.1) (b.2.2.2.2.1) && (eI (a.2.2.2.2.2.1) (b.2.2.2.2.2.1) && (eI (a.2.2.2.2.2.2.1) (b.2.2.2.2.2.2.1) && (eI (a.2.2.2.2.2.2.2.1) (b.2.2.2.2.2.2.2.1) && (eI (a.2.2.2.2.2.2.2.2.1) (b.2.2.2.2.2.2.2.2.1) && (eI (a.2.2.2.2.2.2.2.2.2.1) (b.2.2.2.2.2.2.2.2.2.1) && (eB (a.2.2.2.2.2.2.2.2.2.2.1) (b.2.2.2.2.2.2.2.2.2.2.1) && strEq (segD a) (segD b))))))))))))
def eqSegS (a b : Seg) : Bool := eqC (segC a) (segC b) && chain34 a b
theorem nestB {c x : Bool} {t : Option (TV × List Obj)} (h : t = some (.d .bool x, [])) : (bif c then t else some (.d .bool false, [])) = some (.d .bool (c && x), []) := by
  subst h; cases c <;> rfl
def decRows (ls : List Leaf) (vals : List TV) (objs : List Obj) : Option (Row ls × Row ls × Int × Int) :=
  match vals, objs with
  | [.ptr 0 0, .ptr 1 0, .d (.int .i64) m, .d (.int .i64) i], [.box x, .box y] => (argRow true ls (.agg x)).bind fun a => (argRow true ls (.agg y)).bind fun b => some (a, b, m, i)
  | _, _ => none
theorem decRows_eq {ls : List Leaf} {vals : List TV} {objs : List Obj} {s : Row ls × Row ls × Int × Int} (h : decRows ls vals objs = some s) : vals = [.ptr 0 0, .ptr 1 0, j64 s.2.2.1, j64 s.2.2.2] ∧ objs = [.box ((leaves ls s.1).map LV.tv), .box ((leaves ls s.2.1).map LV.tv)] := by
  unfold decRows at h
  split at h
  · rename_i m i x y
    obtain ⟨a', ha, h⟩ := Option.bind_eq_some_iff.1 h
    obtain ⟨b', hb, h⟩ := Option.bind_eq_some_iff.1 h
    cases h
    have e1 : x = (leaves ls a').map LV.tv := TV.agg.inj (argRow_agg ha)
    have e2 : y = (leaves ls b').map LV.tv := TV.agg.inj (argRow_agg hb)
    subst e1; subst e2
    exact ⟨rfl, rfl⟩
  · cases h
def out34 : TExit → List Nat := fun e => match e with
  | .ret => [4]
  | .exit i => (bif Nat.beq i 0 then [2, 3] else [])
  | _ => []
noncomputable def boxes34 (a b : Seg) : List Obj := [.box ((leaves ti54.lv a).map LV.tv), .box ((leaves ti54.lv b).map LV.tv)]
def ok34 (s : Seg × Seg × Int × Int) : Bool := decide ((segC s.1).length = (segC s.2.1).length ∧ s.2.2.1 = ((segC s.1).length : Int) ∧ s.2.2.2 = 0 ∧ (segC s.1).length < 1099511627776)
noncomputable def piece34 : Piece := Piece.two [2, 3, 15, 16] out34 (decRows ti54.lv) ok34 (fun s => eqC (segC s.1) (segC s.2.1)) (.exit 0) .ret (fun s => ([.ptr 0 0, .ptr 1 0], boxes34 s.1 s.2.1)) (fun _ => ([.d .bool false], []))
theorem step34 {R : Type} (a b : Seg) (m i : Int) (K : TExit → List TV → List Obj → Option R) : evStep SB sb 34 115 0 (loopAt Try.f34.body 8) piece34 [.ptr 0 0, .ptr 1 0, j64 m, j64 i] (boxes34 a b) K =
    bif decide (i < m) then bif decide (0 ≤ i) then (segC a)[i.toNat]?.bind fun y => bif decide (0 ≤ i) then (segC b)[i.toNat]?.bind fun y1 => bif (fun x y => !(x.1 == y.1 && (x.2 == y.2 && true))) y y1 then K .ret [.d .bool false] [] else K .normal [.ptr 0 0, .ptr 1 0, j64 m, j64 (IntKind.i64.wrap (i + 1))] (boxes34 a b) else none else none else K (.exit 0) [.ptr 0 0, .ptr 1 0] (boxes34 a b) := by kernel_rfl
theorem neC (x y : Int × Int) : (fun x y : Int × Int => !(x.1 == y.1 && (x.2 == y.2 && true))) x y = !decide (x = y) := by
  obtain ⟨a1, a2⟩ := x; obtain ⟨b1, b2⟩ := y; by_cases h1 : a1 = b1 <;> by_cases h2 : a2 = b2 <;> simp [h1, h2]
theorem lp34 (a b : Seg) (m i : Int) (hok : ok34 (a, b, m, i) = true) : ∃ n, evLoop SB sb 34 115 0 (loopAt Try.f34.body 8) piece34 n [.ptr 0 0, .ptr 1 0, j64 m, j64 i] (boxes34 a b) = some (bif eqC (segC a) (segC b) then (.exit 0, ([.ptr 0 0, .ptr 1 0], boxes34 a b)) else (.ret, ([.d .bool false], []))) := by
  simp only [ok34, decide_eq_true_eq] at hok
  obtain ⟨h1, h2, h3, h4⟩ := hok
  subst h2; subst h3
  exact ⟨_, eqLoop (segC a) (segC b) _ neC (fun i => [.ptr 0 0, .ptr 1 0, j64 ((segC a).length : Int), j64 i]) (boxes34 a b) ([.d .bool false], []) ([.ptr 0 0, .ptr 1 0], boxes34 a b) 0 h1 h4 (fun i K => step34 a b _ i K) (segC a).length 0 (Nat.sub_zero _) (Nat.zero_le _)⟩
theorem pok34 (ρ : Option Nat) : PieceOK Try.prog ρ 115 (.loop (loopAt Try.f34.body 8)) piece34 := by
  refine two_ok (fid := 34) SB_ok (pieces_none (fun _ => rfl) _) fun vals objs s hs hok => ?_
  obtain ⟨a, b, m, i⟩ := s
  obtain ⟨e1, e2⟩ := decRows_eq hs
  subst e1; subst e2
  exact lp34 a b m i hok
noncomputable def E34 : Env := specEnv (P := Try.prog) (tyAt tab) [] (fun f k => bif Nat.beq f 34 && Nat.beq k 8 then some piece34 else none)
theorem E34_ok : EnvAll Try.prog E34 := specEnv_ok tOk (by kernel_rfl)
theorem nodes34 : nodes (nbody Try.f34.body) = [(8, .loop (loopAt Try.f34.body 8))] := by kernel_rfl
theorem pcs34 (c : Code) (hc : Try.f34.body = some c) : PiecesOK Try.prog E34 none 34 Try.f34.ntmps c := by
  have hn : nodes c = [(8, .loop (loopAt Try.f34.body 8))] := by rw [← nodes34, hc]; rfl
  have hr : rangeFlat false (nbody Try.f34.body) = true := by kernel_rfl
  rw [hc] at hr
  refine pieces_tab (fun c' => ?_) c hr fun x hx p hp => ?_
  · have h2 := condKey_odd c'
    show (bif Nat.beq 34 34 && Nat.beq (condKey c') 8 then some piece34 else none) = none
    cases hb : Nat.beq (condKey c') 8 with
    | true => rw [Nat.eq_of_beq_eq_true hb] at h2; cases h2
    | false => rfl
  · rw [hn] at hx
    simp only [List.mem_singleton] at hx
    subst hx
    have hp : some piece34 = some p := hp
    cases hp
    exact pok34 none
noncomputable def con34 : Con := Con.part (dec2 true ti54.lv true ti54.lv) (fun p => decide ((segC p.1).length < 1099511627776)) (fun p => .d .bool (eqSegS p.1 p.2))
theorem ev34 (a b : Seg) : evFn (R := TV × List Obj) E34 (fun R => callAt (R := R) E34 0) 34 Try.f34 [argT true ti54.lv a, argT true ti54.lv b] [] (fun v o => some (v, o)) =
    bif ((segC a).length : Int) != ((segC b).length : Int) then some (.d .bool false, []) else bif ok34 (a, b, ((segC a).length : Int), 0) then (bif eqC (segC a) (segC b) then (bif eI (a.1) (b.1) then (bif eI (a.2.1) (b.2.1) then (bif eI (a.2.2.1) (b.2.2.1) then (bif eI (a.2.2.2.1) (b.2.2.2.1) then (bif eI (a.2.2.2.2.1) (b.2.2.2.2.1) then (bif eI (a.2.2.2.2.2.1) (b.2.2.2.2.2.1) then (bif eI (a.2.2.2.2.2.2.1) (b.2.2.2.2.2.2.1) then (bif eI (a.2.2.2.2.2.2.2.1) (b.2.2.2.2.2.2.2.1) then (bif eI (a.2.2.2.2.2.2.2.2.1) (b.2.2.2.2.2.2.2.2.1) then (bif eI (a.2.2.2.2.2.2.2.2.2.1) (b.2.2.2.2.2.2.2.2.2.1) then (bif eB (a.2.2.2.2.2.2.2.2.2.2.1) (b.2.2.2.2.2.2.2.2.2.2.1) then (some (.d .bool (strEq (segD a) (segD b)), [])) else some (.d .bool false, [])) else some (.d .bool false, [])) else some (.d .bool false, [])) else some (.d .bool false, [])) else some (.d .bool false, [])) else some (.d .bool false, [])) else some (.d .bool false, [])) else some (.d .bool false, [])) else some (.d .bool false, [])) else some (.d .bool false, [])) else some (.d .bool false, [])) else some (.d .bool false, [])) else none := by kernel_rfl
theorem pl34 (a b : Seg) (hok : (segC a).length < 1099511627776) (t : Option (TV × List Obj)) (ht : t = some (.d .bool (chain34 a b), [])) : (bif ((segC a).length : Int) != ((segC b).length : Int) then some (.d .bool false, []) else bif ok34 (a, b, ((segC a).length : Int), 0) then (bif eqC (segC a) (segC b) then t else some (.d .bool false, [])) else none) = some (.d .bool (eqSegS a b), []) := by
  subst ht
  unfold eqSegS
  by_cases hl : (segC a).length = (segC b).length
  · have h1 : (((segC a).length : Int) != ((segC b).length : Int)) = false := by simp [hl]
    have h2 : ok34 (a, b, ((segC a).length : Int), 0) = true := by
      simp only [ok34, decide_eq_true_eq]
      exact ⟨hl, trivial, trivial, hok⟩
    rw [h1, h2]
    simp only [cond_false, cond_true]
    cases eqC (segC a) (segC b) <;> rfl
  · have h1 : (((segC a).length : Int) != ((segC b).length : Int)) = true := by
      simp only [bne_iff_ne, ne_eq]; omega
    have h2 : eqC (segC a) (segC b) = false := by
      simp only [eqC, decide_eq_false_iff_not]
      exact fun e => hl (congrArg List.length e)
    rw [h1, h2]
    rfl
theorem okc34 : ConOK Try.prog 34 con34 := by
  refine con_part E34_ok Try.func34 (by kernel_rfl) (by kernel_rfl) pcs34 fun args a h hok => ?_
  obtain ⟨a, b⟩ := a
  rw [dec2_eq h]
  refine (ev34 a b).trans (pl34 a b (of_decide_eq_true hok) _ ?_)
  exact nestB (nestB (nestB (nestB (nestB (nestB (nestB (nestB (nestB (nestB (nestB rfl))))))))))
noncomputable def sr34 : SemRow Try.prog := ⟨34, Try.f34, ⟨Try.func34, by kernel_rfl⟩, con34, okc34, Con.part_natural _ _ _⟩
end Go.Te
set_option linter.unusedVariables false
set_option linter.unusedSimpArgs false
set_option maxRecDepth 100000
namespace Go.Te
open Go.RowKit Go.Proofs

/-! A session's parts. -/
def sndL (a : Snd) : Seg := (a.2.2.2.2.2.2.2.1, a.2.2.2.2.2.2.2.2.1, a.2.2.2.2.2.2.2.2.2.1, a.2.2.2.2.2.2.2.2.2.2.1, a.2.2.2.2.2.2.2.2.2.2.2.1, a.2.2.2.2.2.2.2.2.2.2.2.2.1, a.2.2.2.2.2.2.2.2.2.2.2.2.2.1, a.2.2.2.2.2.2.2.2.2.2.2.2.2.2.1, a.2.2.2.2.2.2.2.2.2.2.2.2.2.2.2.1, a.2.2.2.2.2.2.2.2.2.2.2.2.2.2.2.2.1, a.2.2.2.2.2.2.2.2.2.2.2.2.2.2.2.2.2.1, a.2.2.2.2.2.2.2.2.2.2.2.2.2.2.2.2.2.2.1, a.2.2.2.2.2.2.2.2.2.2.2.2.2.2.2.2.2.2.2.1)
def sndB (a : Snd) : List Int := a.2.2.1
def sndG (a : Snd) : List (Int × Int) := a.2.2.2.2.2.2.1
def sndS (a : Snd) : List Int := a.2.2.2.2.2.2.2.2.2.2.2.2.2.2.2.2.2.2.2.2.2.2.1
def sndD (a : Snd) : List Int := a.2.2.2.2.2.2.2.2.2.2.2.2.2.2.2.2.2.2.1
def sndC (a : Snd) : List (Int × Int) := a.2.2.2.2.2.2.2.2.2.2.2.2.2.2.2.2.2.2.2.1

/-! The fields of a session that are no slices. -/
noncomputable def con94 : Con := Con.all (dec1 true ti57.lv) fun a => argT true ti152.lv (a.1, a.2.2.2.1, a.2.2.2.2.1, a.2.2.2.2.2.1, a.2.2.2.2.2.2.2.2.2.2.2.2.2.2.2.2.2.2.2.2.1, a.2.2.2.2.2.2.2.2.2.2.2.2.2.2.2.2.2.2.2.2.2.1, a.2.2.2.2.2.2.2.2.2.2.2.2.2.2.2.2.2.2.2.2.2.2.2, a.2.1)
theorem okc94 : ConOK Try.prog 94 con94 := con_all SB_ok.toEnvOK (callAt_ok SB_ok 0) Try.func94 (by kernel_rfl) (by kernel_rfl) (fun c _ => pieces_none (fun _ => rfl) c) fun args a h => by
  rw [dec1_eq h]
  kernel_rfl
noncomputable def sr94 : SemRow Try.prog := ⟨94, Try.f94, ⟨Try.func94, by kernel_rfl⟩, con94, okc94, Con.all_natural _ _⟩

/-! heliographref14.Copy -/
def ok31 (a : Snd) : Bool := decide (0 + (sndB a).length < 1099511627776 / (1 + 1)) && (decide (0 + (sndG a).length < 1099511627776 / (16 + 1)) && (decide (0 + (sndS a).length < 1099511627776 / (4 + 1)) && (decide (0 + (sndD a).length < 1099511627776 / (1 + 1)) && decide (0 + (sndC a).length < 1099511627776 / (16 + 1)))))
noncomputable def con31 : Con := Con.part (dec1 true ti57.lv) ok31 fun a => argT true ti57.lv a
theorem ev31 (a : Snd) : evFn (R := TV × List Obj) SB sb 31 Try.f31 [argT true ti57.lv a] [] (fun v o => some (v, o)) =
    bif decide (0 + (sndB a).length < 1099511627776 / (1 + 1)) then bif decide (0 + (sndG a).length < 1099511627776 / (16 + 1)) then bif decide (0 + (sndS a).length < 1099511627776 / (4 + 1)) then bif decide (0 + (sndD a).length < 1099511627776 / (1 + 1)) then bif decide (0 + (sndC a).length < 1099511627776 / (16 + 1)) then some (argT true ti57.lv a, []) else none else none else none else none else none := by kernel_rfl
theorem okc31 : ConOK Try.prog 31 con31 := by
  refine con_part SB_ok Try.func31 (by kernel_rfl) (by kernel_rfl) (fun c _ => pieces_none (fun _ => rfl) c) fun args a h hok => ?_
  rw [dec1_eq h]
  refine (ev31 a).trans ?_
  simp only [ok31, Bool.and_eq_true] at hok
  obtain ⟨h1, h2, h3, h4, h5⟩ := hok
  rw [h1, h2, h3, h4, h5]
  rfl
noncomputable def sr31 : SemRow Try.prog := ⟨31, Try.f31, ⟨Try.func31, by kernel_rfl⟩, con31, okc31, Con.part_natural _ _ _⟩

/-! heliographref14.Same -/
def nI (x y : Int) : Bool := x != y
theorem nestN {c x : Bool} {t : Option (TV × List Obj)} (h : t = some (.d .bool x, [])) : (bif c then some (.d .bool false, []) else t) = some (.d .bool (!c && x), []) := by
  subst h; cases c <;> rfl
theorem nestG {c x : Bool} {t : Option (TV × List Obj)} (hc : c = true) (h : t = some (.d .bool x, [])) : (bif c then t else none) = some (.d .bool x, []) := by
  subst h; subst hc; rfl
noncomputable def boxes25 (a b : Snd) : List Obj := [.box ((leaves ti57.lv a).map LV.tv), .box ((leaves ti57.lv b).map LV.tv)]
def spec25 (a b : Snd) : Bool := (!(nI (a.1) (b.1)) && (!(nI (a.2.1) (b.2.1)) && (!(nI (a.2.2.2.1) (b.2.2.2.1)) && (!(nI (a.2.2.2.2.1) (b.2.2.2.2.1)) && (!(!strEq (sndB a) (sndB b)) && (!(nI (a.2.2.2.2.2.1) (b.2.2.2.2.2.1)) && (!(nI (a.2.2.2.2.2.2.2.2.2.2.2.2.2.2.2.2.2.2.2.2.1) (b.2.2.2.2.2.2.2.2.2.2.2.2.2.2.2.2.2.2.2.2.1)) && (!(nI (a.2.2.2.2.2.2.2.2.2.2.2.2.2.2.2.2.2.2.2.2.2.1) (b.2.2.2.2.2.2.2.2.2.2.2.2.2.2.2.2.2.2.2.2.2.1)) && (!(nI (a.2.2.2.2.2.2.2.2.2.2.2.2.2.2.2.2.2.2.2.2.2.2.2) (b.2.2.2.2.2.2.2.2.2.2.2.2.2.2.2.2.2.2.2.2.2.2.2)) && (!(!eqSegS (sndL a) (sndL b)) && (eqC (sndG a) (sndG b) && eqI (sndS a) (sndS b))))))))))))
theorem neI (x y : Int) : (fun x y : Int => x != y) x y = !decide (x = y) := by by_cases h : x = y <;> simp [h]
def ok25a (s : Snd × Snd × Int × Int) : Bool := decide ((sndG s.1).length = (sndG s.2.1).length ∧ s.2.2.1 = ((sndG s.1).length : Int) ∧ s.2.2.2 = 0 ∧ (sndG s.1).length < 1099511627776)
def out25a : TExit → List Nat := fun e => match e with
  | .ret => [4]
  | .exit i => (bif Nat.beq i 0 then [2, 3] else [])
  | _ => []
noncomputable def piece25a : Piece := Piece.two [2, 3, 108, 109] out25a (decRows ti57.lv) ok25a (fun s => eqC (sndG s.1) (sndG s.2.1)) (.exit 0) .ret (fun s => ([.ptr 0 0, .ptr 1 0], (boxes25 s.1 s.2.1))) (fun _ => ([.d .bool false], []))
theorem step25a {R : Type} (a b : Snd) (m i : Int) (K : TExit → List TV → List Obj → Option R) : evStep SB sb 25 142 0 (loopAt Try.f25.body 8) piece25a [.ptr 0 0, .ptr 1 0, j64 m, j64 i] (boxes25 a b) K =
    bif decide (i < m) then bif decide (0 ≤ i) then (sndG a)[i.toNat]?.bind fun y => bif decide (0 ≤ i) then (sndG b)[i.toNat]?.bind fun y1 => bif (fun x y => !(x.1 == y.1 && (x.2 == y.2 && true))) y y1 then K .ret [.d .bool false] [] else K .normal [.ptr 0 0, .ptr 1 0, j64 m, j64 (IntKind.i64.wrap (i + 1))] (boxes25 a b) else none else none else K (.exit 0) [.ptr 0 0, .ptr 1 0] (boxes25 a b) := by kernel_rfl
theorem lp25a (a b : Snd) (m i : Int) (hok : ok25a (a, b, m, i) = true) : ∃ n, evLoop SB sb 25 142 0 (loopAt Try.f25.body 8) piece25a n [.ptr 0 0, .ptr 1 0, j64 m, j64 i] (boxes25 a b) = some (bif eqC (sndG a) (sndG b) then (.exit 0, ([.ptr 0 0, .ptr 1 0], (boxes25 a b))) else (.ret, ([.d .bool false], []))) := by
  simp only [ok25a, decide_eq_true_eq] at hok
  obtain ⟨h1, h2, h3, h4⟩ := hok
  subst h2; subst h3
  exact ⟨_, eqLoop (sndG a) (sndG b) _ neC (fun i => [.ptr 0 0, .ptr 1 0, j64 ((sndG a).length : Int), j64 i]) (boxes25 a b) ([.d .bool false], []) ([.ptr 0 0, .ptr 1 0], (boxes25 a b)) 0 h1 h4 (fun i K => step25a a b _ i K) (sndG a).length 0 (Nat.sub_zero _) (Nat.zero_le _)⟩
theorem pok25a (ρ : Option Nat) : PieceOK Try.prog ρ 142 (.loop (loopAt Try.f25.body 8)) piece25a := by
  refine two_ok (fid := 25) SB_ok (pieces_none (fun _ => rfl) _) fun vals objs s hs hok => ?_
  obtain ⟨a, b, m, i⟩ := s
  obtain ⟨e1, e2⟩ := decRows_eq hs
  subst e1; subst e2
  exact lp25a a b m i hok
def ok25b (s : Snd × Snd × Int × Int) : Bool := decide ((sndS s.1).length = (sndS s.2.1).length ∧ s.2.2.1 = ((sndS s.1).length : Int) ∧ s.2.2.2 = 0 ∧ (sndS s.1).length < 1099511627776)
def out25b : TExit → List Nat := fun e => match e with
  | .ret => [4]
  | .exit i => (bif Nat.beq i 2 then [] else [])
  | _ => []
noncomputable def piece25b : Piece := Piece.two [2, 3, 126, 127] out25b (decRows ti57.lv) ok25b (fun s => eqI (sndS s.1) (sndS s.2.1)) (.exit 2) .ret (fun s => ([], [])) (fun _ => ([.d .bool false], []))
theorem step25b {R : Type} (a b : Snd) (m i : Int) (K : TExit → List TV → List Obj → Option R) : evStep SB sb 25 142 0 (loopAt Try.f25.body 20) piece25b [.ptr 0 0, .ptr 1 0, j64 m, j64 i] (boxes25 a b) K =
    bif decide (i < m) then bif decide (0 ≤ i) then (sndS a)[i.toNat]?.bind fun y => bif decide (0 ≤ i) then (sndS b)[i.toNat]?.bind fun y1 => bif (fun x y => x != y) y y1 then K .ret [.d .bool false] [] else K .normal [.ptr 0 0, .ptr 1 0, j64 m, j64 (IntKind.i64.wrap (i + 1))] (boxes25 a b) else none else none else K (.exit 2) [] [] := by kernel_rfl
theorem lp25b (a b : Snd) (m i : Int) (hok : ok25b (a, b, m, i) = true) : ∃ n, evLoop SB sb 25 142 0 (loopAt Try.f25.body 20) piece25b n [.ptr 0 0, .ptr 1 0, j64 m, j64 i] (boxes25 a b) = some (bif eqI (sndS a) (sndS b) then (.exit 2, ([], [])) else (.ret, ([.d .bool false], []))) := by
  simp only [ok25b, decide_eq_true_eq] at hok
  obtain ⟨h1, h2, h3, h4⟩ := hok
  subst h2; subst h3
  exact ⟨_, eqLoop (sndS a) (sndS b) _ neI (fun i => [.ptr 0 0, .ptr 1 0, j64 ((sndS a).length : Int), j64 i]) (boxes25 a b) ([.d .bool false], []) ([], []) 2 h1 h4 (fun i K => step25b a b _ i K) (sndS a).length 0 (Nat.sub_zero _) (Nat.zero_le _)⟩
theorem pok25b (ρ : Option Nat) : PieceOK Try.prog ρ 142 (.loop (loopAt Try.f25.body 20)) piece25b := by
  refine two_ok (fid := 25) SB_ok (pieces_none (fun _ => rfl) _) fun vals objs s hs hok => ?_
  obtain ⟨a, b, m, i⟩ := s
  obtain ⟨e1, e2⟩ := decRows_eq hs
  subst e1; subst e2
  exact lp25b a b m i hok
noncomputable def E25 : Env := specEnv (tyAt tab) [sr34] (fun f k => bif Nat.beq f 25 && Nat.beq k 8 then some piece25a else bif Nat.beq f 25 && Nat.beq k 20 then some piece25b else none)
theorem E25_ok : EnvAll Try.prog E25 := specEnv_ok tOk (by kernel_rfl)
theorem nodes25 : nodes (nbody Try.f25.body) = [(8, .loop (loopAt Try.f25.body 8)), (20, .loop (loopAt Try.f25.body 20))] := by kernel_rfl
theorem pcs25 (c : Code) (hc : Try.f25.body = some c) : PiecesOK Try.prog E25 none 25 Try.f25.ntmps c := by
  have hn : nodes c = [(8, .loop (loopAt Try.f25.body 8)), (20, .loop (loopAt Try.f25.body 20))] := by rw [← nodes25, hc]; rfl
  have hr : rangeFlat false (nbody Try.f25.body) = true := by kernel_rfl
  rw [hc] at hr
  refine pieces_tab (fun c' => ?_) c hr fun x hx p hp => ?_
  · have h2 := condKey_odd c'
    show (bif Nat.beq 25 25 && Nat.beq (condKey c') 8 then some piece25a else bif Nat.beq 25 25 && Nat.beq (condKey c') 20 then some piece25b else none) = none
    cases hb : Nat.beq (condKey c') 8 with
    | true => rw [Nat.eq_of_beq_eq_true hb] at h2; cases h2
    | false =>
      cases hb2 : Nat.beq (condKey c') 20 with
      | true => rw [Nat.eq_of_beq_eq_true hb2] at h2; cases h2
      | false => rfl
  · rw [hn] at hx
    simp only [List.mem_cons, List.not_mem_nil, or_false] at hx
    rcases hx with rfl | rfl
    · have hp : some piece25a = some p := hp
      cases hp
      exact pok25a none
    · have hp : some piece25b = some p := hp
      cases hp
      exact pok25b none
def okS (a : Snd) : Bool := decide ((sndC a).length < 1099511627776) && (decide ((sndG a).length < 1099511627776) && decide ((sndS a).length < 1099511627776))
noncomputable def con25 : Con := Con.part (dec2 true ti57.lv true ti57.lv) (fun p => okS p.1) (fun p => .d .bool (spec25 p.1 p.2))
theorem ev25 (a b : Snd) : evFn (R := TV × List Obj) E25 (fun R => callAt (R := R) E25 0) 25 Try.f25 [argT true ti57.lv a, argT true ti57.lv b] [] (fun v o => some (v, o)) =
    bif nI (a.1) (b.1) then some (.d .bool false, []) else (bif nI (a.2.1) (b.2.1) then some (.d .bool false, []) else (bif nI (a.2.2.2.1) (b.2.2.2.1) then some (.d .bool false, []) else (bif nI (a.2.2.2.2.1) (b.2.2.2.2.1) then some (.d .bool false, []) else (bif !strEq (sndB a) (sndB b) then some (.d .bool false, []) else (bif nI (a.2.2.2.2.2.1) (b.2.2.2.2.2.1) then some (.d .bool false, []) else (bif nI (a.2.2.2.2.2.2.2.2.2.2.2.2.2.2.2.2.2.2.2.2.1) (b.2.2.2.2.2.2.2.2.2.2.2.2.2.2.2.2.2.2.2.2.1) then some (.d .bool false, []) else (bif nI (a.2.2.2.2.2.2.2.2.2.2.2.2.2.2.2.2.2.2.2.2.2.1) (b.2.2.2.2.2.2.2.2.2.2.2.2.2.2.2.2.2.2.2.2.2.1) then some (.d .bool false, []) else (bif nI (a.2.2.2.2.2.2.2.2.2.2.2.2.2.2.2.2.2.2.2.2.2.2.2) (b.2.2.2.2.2.2.2.2.2.2.2.2.2.2.2.2.2.2.2.2.2.2.2) then some (.d .bool false, []) else (bif decide ((segC (sndL a)).length < 1099511627776) then (bif !eqSegS (sndL a) (sndL b) then some (.d .bool false, []) else (bif ((sndG a).length : Int) != ((sndG b).length : Int) then some (.d .bool false, []) else bif ((sndS a).length : Int) != ((sndS b).length : Int) then some (.d .bool false, []) else bif ok25a (a, b, ((sndG a).length : Int), 0) then (bif eqC (sndG a) (sndG b) then (bif ok25b (a, b, ((sndS a).length : Int), 0) then (bif eqI (sndS a) (sndS b) then some (.d .bool true, []) else some (.d .bool false, [])) else none) else some (.d .bool false, [])) else none)) else none))))))))) := by kernel_rfl
theorem pl25 (a b : Snd) (h1 : (sndG a).length < 1099511627776) (h2 : (sndS a).length < 1099511627776) : (bif ((sndG a).length : Int) != ((sndG b).length : Int) then some (.d .bool false, []) else bif ((sndS a).length : Int) != ((sndS b).length : Int) then some (.d .bool false, []) else bif ok25a (a, b, ((sndG a).length : Int), 0) then (bif eqC (sndG a) (sndG b) then (bif ok25b (a, b, ((sndS a).length : Int), 0) then (bif eqI (sndS a) (sndS b) then some (.d .bool true, []) else some (.d .bool false, [])) else none) else some (.d .bool false, [])) else none : Option (TV × List Obj)) = some (.d .bool (eqC (sndG a) (sndG b) && eqI (sndS a) (sndS b)), []) := by
  by_cases hl : (sndG a).length = (sndG b).length
  · have e1 : (((sndG a).length : Int) != ((sndG b).length : Int)) = false := by simp [hl]
    have e2 : ok25a (a, b, ((sndG a).length : Int), 0) = true := by
      simp only [ok25a, decide_eq_true_eq]
      exact ⟨hl, trivial, trivial, h1⟩
    rw [e1, e2]
    by_cases hm : (sndS a).length = (sndS b).length
    · have e3 : (((sndS a).length : Int) != ((sndS b).length : Int)) = false := by simp [hm]
      have e4 : ok25b (a, b, ((sndS a).length : Int), 0) = true := by
        simp only [ok25b, decide_eq_true_eq]
        exact ⟨hm, trivial, trivial, h2⟩
      rw [e3, e4]
      cases eqC (sndG a) (sndG b) <;> cases eqI (sndS a) (sndS b) <;> rfl
    · have e3 : (((sndS a).length : Int) != ((sndS b).length : Int)) = true := by
        simp only [bne_iff_ne, ne_eq]; omega
      have e4 : eqI (sndS a) (sndS b) = false := by
        simp only [eqI, decide_eq_false_iff_not]
        exact fun e => hm (congrArg List.length e)
      rw [e3, e4]
      cases eqC (sndG a) (sndG b) <;> rfl
  · have e1 : (((sndG a).length : Int) != ((sndG b).length : Int)) = true := by
      simp only [bne_iff_ne, ne_eq]; omega
    have e2 : eqC (sndG a) (sndG b) = false := by
      simp only [eqC, decide_eq_false_iff_not]
      exact fun e => hl (congrArg List.length e)
    rw [e1, e2]
    rfl
theorem okc25 : ConOK Try.prog 25 con25 := by
  refine con_part E25_ok Try.func25 (by kernel_rfl) (by kernel_rfl) pcs25 fun args a h hok => ?_
  obtain ⟨a, b⟩ := a
  rw [dec2_eq h]
  simp only [okS, Bool.and_eq_true] at hok
  obtain ⟨h1, h2, h3⟩ := hok
  refine (ev25 a b).trans ?_
  exact nestN (nestN (nestN (nestN (nestN (nestN (nestN (nestN (nestN (nestG h1 (nestN (pl25 a b (of_decide_eq_true h2) (of_decide_eq_true h3))))))))))))
noncomputable def sr25 : SemRow Try.prog := ⟨25, Try.f25, ⟨Try.func25, by kernel_rfl⟩, con25, okc25, Con.part_natural _ _ _⟩
end Go.Te
set_option linter.unusedVariables false
set_option linter.unusedSimpArgs false
set_option maxRecDepth 100000
namespace Go.Te
open Go.RowKit Go.Proofs

/-! heliographlaw14.short -/
def mn (k : Int) (n : Nat) : Int := if k < (n : Int) then k else (n : Int)
def sh {α : Type} (k : Int) (l : List α) : List α := l.take (mn k l.length).toNat
theorem mn_nonneg {k : Int} (hk : 0 ≤ k) (n : Nat) : decide (0 ≤ mn k n) = true := by
  rw [decide_eq_true_eq]; unfold mn; split <;> omega
theorem mn_le (k : Int) (n : Nat) : decide ((mn k n).toNat ≤ n) = true := by
  rw [decide_eq_true_eq]; unfold mn; split <;> omega
theorem mn_small {k : Int} (n : Nat) : (mn k n).toNat ≤ k.toNat := by
  unfold mn; split <;> omega
theorem sh_len {α : Type} (k : Int) (l : List α) : (sh k l).length ≤ k.toNat := by
  simp only [sh, List.length_take]
  have := mn_small (k := k) l.length
  omega
def short29 (a : Snd) : Snd := (a.1, a.2.1, sh (600) (a.2.2.1), a.2.2.2.1, a.2.2.2.2.1, a.2.2.2.2.2.1, sh (300) (a.2.2.2.2.2.2.1), a.2.2.2.2.2.2.2.1, a.2.2.2.2.2.2.2.2.1, a.2.2.2.2.2.2.2.2.2.1, a.2.2.2.2.2.2.2.2.2.2.1, a.2.2.2.2.2.2.2.2.2.2.2.1, a.2.2.2.2.2.2.2.2.2.2.2.2.1, a.2.2.2.2.2.2.2.2.2.2.2.2.2.1, a.2.2.2.2.2.2.2.2.2.2.2.2.2.2.1, a.2.2.2.2.2.2.2.2.2.2.2.2.2.2.2.1, a.2.2.2.2.2.2.2.2.2.2.2.2.2.2.2.2.1, a.2.2.2.2.2.2.2.2.2.2.2.2.2.2.2.2.2.1, sh (200) (a.2.2.2.2.2.2.2.2.2.2.2.2.2.2.2.2.2.2.1), sh (30) (a.2.2.2.2.2.2.2.2.2.2.2.2.2.2.2.2.2.2.2.1), a.2.2.2.2.2.2.2.2.2.2.2.2.2.2.2.2.2.2.2.2.1, a.2.2.2.2.2.2.2.2.2.2.2.2.2.2.2.2.2.2.2.2.2.1, sh (40) (a.2.2.2.2.2.2.2.2.2.2.2.2.2.2.2.2.2.2.2.2.2.2.1), a.2.2.2.2.2.2.2.2.2.2.2.2.2.2.2.2.2.2.2.2.2.2.2)
theorem ok31_short (a : Snd) : ok31 (short29 a) = true := by
  have h1 := sh_len 600 (sndB a)
  have h2 := sh_len 300 (sndG a)
  have h3 := sh_len 40 (sndS a)
  have h4 := sh_len 200 (sndD a)
  have h5 := sh_len 30 (sndC a)
  simp only [ok31, Bool.and_eq_true, decide_eq_true_eq]
  have e1 : sndB (short29 a) = sh 600 (sndB a) := rfl
  have e2 : sndG (short29 a) = sh 300 (sndG a) := rfl
  have e3 : sndS (short29 a) = sh 40 (sndS a) := rfl
  have e4 : sndD (short29 a) = sh 200 (sndD a) := rfl
  have e5 : sndC (short29 a) = sh 30 (sndC a) := rfl
  rw [e1, e2, e3, e4, e5]
  omega
noncomputable def E29 : Env := specEnv (tyAt tab) [sr31] (fun _ _ => none)
theorem E29_ok : EnvAll Try.prog E29 := specEnv_ok tOk (by kernel_rfl)
theorem ev29 (a : Snd) : evFn (R := TV × List Obj) E29 (fun R => callAt (R := R) E29 0) 29 Try.f29 [argT true ti57.lv a] [] (fun v o => some (v, o)) =
    bif decide (0 ≤ mn 600 (sndB a).length) then (bif decide ((mn 600 (sndB a).length).toNat ≤ (sndB a).length) then (bif decide (0 ≤ mn 300 (sndG a).length) then (bif decide ((mn 300 (sndG a).length).toNat ≤ (sndG a).length) then (bif decide (0 ≤ mn 40 (sndS a).length) then (bif decide ((mn 40 (sndS a).length).toNat ≤ (sndS a).length) then (bif decide (0 ≤ mn 200 (sndD a).length) then (bif decide ((mn 200 (sndD a).length).toNat ≤ (sndD a).length) then (bif decide (0 ≤ mn 30 (sndC a).length) then (bif decide ((mn 30 (sndC a).length).toNat ≤ (sndC a).length) then (bif ok31 (short29 a) then some (argT true ti57.lv (short29 a), []) else none) else none) else none) else none) else none) else none) else none) else none) else none) else none) else none := by kernel_rfl
noncomputable def con29 : Con := Con.all (dec1 true ti57.lv) fun a => argT true ti57.lv (short29 a)
theorem okc29 : ConOK Try.prog 29 con29 := by
  refine con_all E29_ok.toEnvOK (callAt_ok E29_ok 0) Try.func29 (by kernel_rfl) (by kernel_rfl) (fun c _ => pieces_none (fun _ => rfl) c) fun args a h => ?_
  rw [dec1_eq h]
  refine (ev29 a).trans ?_
  rw [ok31_short, mn_nonneg (by omega), mn_nonneg (by omega), mn_nonneg (by omega), mn_nonneg (by omega), mn_nonneg (by omega), mn_le, mn_le, mn_le, mn_le, mn_le]
  rfl
noncomputable def sr29 : SemRow Try.prog := ⟨29, Try.f29, ⟨Try.func29, by kernel_rfl⟩, con29, okc29, Con.all_natural _ _⟩

/-! sender.Same -/
def rest30 (a b : Snd) : Bool := (eI (a.1) (b.1) && (eI (a.2.2.2.1) (b.2.2.2.1) && (eI (a.2.2.2.2.1) (b.2.2.2.2.1) && (eI (a.2.2.2.2.2.1) (b.2.2.2.2.2.1) && (eI (a.2.2.2.2.2.2.2.2.2.2.2.2.2.2.2.2.2.2.2.2.1) (b.2.2.2.2.2.2.2.2.2.2.2.2.2.2.2.2.2.2.2.2.1) && (eI (a.2.2.2.2.2.2.2.2.2.2.2.2.2.2.2.2.2.2.2.2.2.1) (b.2.2.2.2.2.2.2.2.2.2.2.2.2.2.2.2.2.2.2.2.2.1) && (eI (a.2.2.2.2.2.2.2.2.2.2.2.2.2.2.2.2.2.2.2.2.2.2.2) (b.2.2.2.2.2.2.2.2.2.2.2.2.2.2.2.2.2.2.2.2.2.2.2) && (eI (a.2.1) (b.2.1) && true))))))))
def spec30 (a b : Snd) : Bool := rest30 a b && (eqI (sndB a) (sndB b) && (eqC (sndG a) (sndG b) && (eqI (sndS a) (sndS b) && eqSeg (sndL a) (sndL b))))
def ok30 (a : Snd) : Bool := decide ((sndB a).length < 1099511627776) && (decide ((sndG a).length < 1099511627776) && (decide ((sndS a).length < 1099511627776) && okSeg (sndL a)))
noncomputable def con30 : Con := Con.part (dec2 true ti57.lv true ti57.lv) (fun p => ok30 p.1) (fun p => .d .bool (spec30 p.1 p.2))
noncomputable def E30 : Env := specEnv (tyAt tab) [sr92, sr94, sr95, sr96, sr97] (fun _ _ => none)
theorem E30_ok : EnvAll Try.prog E30 := specEnv_ok tOk (by kernel_rfl)
theorem ev30 (a b : Snd) : evFn (R := TV × List Obj) E30 (fun R => callAt (R := R) E30 0) 30 Try.f30 [argT true ti57.lv a, argT true ti57.lv b] [] (fun v o => some (v, o)) =
    bif rest30 a b then (bif decide ((sndB a).length < 1099511627776) then (bif eqI (sndB a) (sndB b) then (bif decide ((sndG a).length < 1099511627776) then (bif eqC (sndG a) (sndG b) then (bif decide ((sndS a).length < 1099511627776) then (bif eqI (sndS a) (sndS b) then (bif okSeg (sndL a) then some (.d .bool (eqSeg (sndL a) (sndL b)), []) else none) else some (.d .bool false, [])) else none) else some (.d .bool false, [])) else none) else some (.d .bool false, [])) else none) else some (.d .bool false, []) := by kernel_rfl
theorem okc30 : ConOK Try.prog 30 con30 := by
  refine con_part E30_ok Try.func30 (by kernel_rfl) (by kernel_rfl) (fun c _ => pieces_none (fun _ => rfl) c) fun args a h hok => ?_
  obtain ⟨a, b⟩ := a
  rw [dec2_eq h]
  simp only [ok30, Bool.and_eq_true] at hok
  obtain ⟨h1, h2, h3, h4⟩ := hok
  refine (ev30 a b).trans ?_
  exact nestB (nestG h1 (nestB (nestG h2 (nestB (nestG h3 (nestB (nestG h4 rfl)))))))
noncomputable def sr30 : SemRow Try.prog := ⟨30, Try.f30, ⟨Try.func30, by kernel_rfl⟩, con30, okc30, Con.part_natural _ _ _⟩
noncomputable def sr22 : SemRow Try.prog := ⟨22, Try.f22, ⟨Try.func22, by kernel_rfl⟩, conTrue, wakes14, conTrue_natural⟩
end Go.Te
set_option linter.unusedVariables false
set_option linter.unusedSimpArgs false
set_option maxRecDepth 100000
namespace Go.Te
open Go.RowKit Go.Proofs
noncomputable def E6 : Env := specEnv (tyAt tab) [sr22, sr25, sr29, sr30, sr31] (fun _ _ => none)
theorem E6_ok : EnvAll Try.prog E6 := specEnv_ok tOk (by kernel_rfl)
theorem ev6 (a b : Snd) : evFn (R := TV × List Obj) E6 (fun R => callAt (R := R) E6 0) 6 Try.f6 [argT true ti57.lv a, argT true ti57.lv b] [] (fun v o => some (v, o)) =
    bif ok30 (short29 a) then (bif okS (short29 a) then (bif spec30 (short29 a) (short29 b) == spec25 (short29 a) (short29 b) then (bif ok31 (short29 a) then (bif ok30 (short29 a) then some (.d .bool (spec30 (short29 a) (short29 a)), []) else none) else none) else some (.d .bool false, [])) else none) else none := by kernel_rfl
end Go.Te
set_option linter.unusedVariables false
set_option linter.unusedSimpArgs false
set_option maxRecDepth 100000
namespace Go.Te
open Go.RowKit Go.Proofs

/-! ### The two ways to compare say the same, of bytes -/
def allB (l : List Int) : Bool := l.all fun x => decide (0 ≤ x) && decide (x ≤ 255)
theorem strOf_inj : ∀ {x y : List Int}, allB x = true → allB y = true → (x.map fun n => UInt8.ofNat n.toNat) = (y.map fun n => UInt8.ofNat n.toNat) → x = y
  | [], [], _, _, _ => rfl
  | [], _ :: _, _, _, h => by simp at h
  | _ :: _, [], _, _, h => by simp at h
  | a :: x, b :: y, hx, hy, h => by
    simp only [allB, List.all_cons, Bool.and_eq_true, decide_eq_true_eq] at hx hy
    simp only [List.map_cons, List.cons.injEq] at h
    obtain ⟨h1, h2⟩ := h
    have e := congrArg UInt8.toNat h1
    simp only [UInt8.toNat_ofNat'] at e
    have : a = b := by omega
    rw [this, strOf_inj (x := x) (y := y) (by simpa [allB] using hx.2) (by simpa [allB] using hy.2) h2]
theorem strEq_eqI {x y : List Int} (hx : allB x = true) (hy : allB y = true) : strEq x y = eqI x y := by
  unfold strEq eqI
  rw [ByteArray.toList_eq, ByteArray.toList_eq, Bool.eq_iff_iff, beq_iff_eq, decide_eq_true_eq]
  simp only [strOf]
  constructor
  · intro h; exact strOf_inj hx hy (by simpa using h)
  · rintro rfl; rfl

theorem andT {c d : Bool} (h1 : c = true) (h2 : d = true) : (c && d) = true := by rw [h1, h2]; rfl
theorem eI_self (x : Int) : eI x x = true := by simp [eI]
theorem eB_self (x : Bool) : eB x x = true := by simp [eB]
theorem eqI_self (x : List Int) : eqI x x = true := by simp [eqI]
theorem eqC_self (x : List (Int × Int)) : eqC x x = true := by simp [eqC]
theorem eqSeg_self (a : Seg) : eqSeg a a = true := by
  unfold eqSeg restSeg
  exact andT (andT (eI_self _) (andT (eI_self _) (andT (eI_self _) (andT (eI_self _) (andT (eI_self _) (andT (eI_self _) (andT (eI_self _) (andT (eI_self _) (andT (eI_self _) (andT (eI_self _) (andT (eB_self _) rfl))))))))))) (andT (eqI_self _) (eqC_self _))
theorem spec30_self (a : Snd) : spec30 a a = true := by
  unfold spec30 rest30
  exact andT (andT (eI_self _) (andT (eI_self _) (andT (eI_self _) (andT (eI_self _) (andT (eI_self _) (andT (eI_self _) (andT (eI_self _) (andT (eI_self _) rfl)))))))) (andT (eqI_self _) (andT (eqC_self _) (andT (eqI_self _) (eqSeg_self _))))

theorem same_eq (a b : Snd) (h1 : allB (sndB a) = true) (h2 : allB (sndB b) = true) (h3 : allB (sndD a) = true) (h4 : allB (sndD b) = true) : spec30 a b = spec25 a b := by
  have e1 : strEq (segD (sndL a)) (segD (sndL b)) = eqI (segD (sndL a)) (segD (sndL b)) := strEq_eqI h3 h4
  have e2 : strEq (sndB a) (sndB b) = eqI (sndB a) (sndB b) := strEq_eqI h1 h2
  unfold spec30 spec25 rest30 eqSeg eqSegS restSeg chain34
  rw [e1, e2]
  unfold nI eI bne
  simp only [Bool.not_not, Bool.and_true]
  ac_rfl

theorem sh_all {l : List Int} (k : Int) (h : allB l = true) : allB (sh k l) = true := by
  simp only [allB, List.all_eq_true] at h ⊢
  exact fun x hx => h x (List.mem_of_mem_take hx)

theorem ok30_short (a : Snd) : ok30 (short29 a) = true := by
  have h1 := sh_len 600 (sndB a)
  have h2 := sh_len 300 (sndG a)
  have h3 := sh_len 40 (sndS a)
  have h4 := sh_len 200 (sndD a)
  have h5 := sh_len 30 (sndC a)
  have e1 : sndB (short29 a) = sh 600 (sndB a) := rfl
  have e2 : sndG (short29 a) = sh 300 (sndG a) := rfl
  have e3 : sndS (short29 a) = sh 40 (sndS a) := rfl
  have e4 : segD (sndL (short29 a)) = sh 200 (sndD a) := rfl
  have e5 : segC (sndL (short29 a)) = sh 30 (sndC a) := rfl
  simp only [ok30, okSeg, Bool.and_eq_true, decide_eq_true_eq]
  rw [e1, e2, e3, e4, e5]
  omega
theorem okS_short (a : Snd) : okS (short29 a) = true := by
  have h2 := sh_len 300 (sndG a)
  have h3 := sh_len 40 (sndS a)
  have h5 := sh_len 30 (sndC a)
  have e2 : sndG (short29 a) = sh 300 (sndG a) := rfl
  have e3 : sndS (short29 a) = sh 40 (sndS a) := rfl
  have e5 : sndC (short29 a) = sh 30 (sndC a) := rfl
  simp only [okS, Bool.and_eq_true, decide_eq_true_eq]
  rw [e2, e3, e5]
  omega

/-! ### heliographlaw14.SenderSame -/
def okBytes (a : Snd) : Bool := allB (sndB a) && allB (sndD a)
noncomputable def con6 : Con := Con.part (dec2 true ti57.lv true ti57.lv) (fun p => okBytes p.1 && okBytes p.2) (fun _ => .d .bool true)
theorem okc6 : ConOK Try.prog 6 con6 := by
  refine con_part E6_ok Try.func6 (by kernel_rfl) (by kernel_rfl) (fun c _ => pieces_none (fun _ => rfl) c) fun args a h hok => ?_
  obtain ⟨a, b⟩ := a
  rw [dec2_eq h]
  refine (ev6 a b).trans ?_
  simp only [okBytes, Bool.and_eq_true] at hok
  obtain ⟨⟨h1, h2⟩, h3, h4⟩ := hok
  have hs : spec30 (short29 a) (short29 b) = spec25 (short29 a) (short29 b) := same_eq _ _ (sh_all 600 h1) (sh_all 600 h3) (sh_all 200 h2) (sh_all 200 h4)
  rw [ok30_short, okS_short, ok31_short, hs, spec30_self]
  simp
noncomputable def sr6 : SemRow Try.prog := ⟨6, Try.f6, ⟨Try.func6, by kernel_rfl⟩, con6, okc6, Con.part_natural _ _ _⟩
noncomputable def L6 : Env := specEnv (tyAt tab) [sr6] (fun _ _ => none)
theorem L6_ok : EnvAll Try.prog L6 := specEnv_ok tOk (by kernel_rfl)
theorem law6 (a b : Snd) (h : (okBytes a && okBytes b) = true) : callAt L6 0 6 [argT true ti57.lv a, argT true ti57.lv b] [] isTrue = some () := by
  have e : callAt L6 0 6 [argT true ti57.lv a, argT true ti57.lv b] [] isTrue = bif okBytes a && okBytes b then some () else none := by kernel_rfl
  rw [e, h]; rfl

theorem bytes_of {l : List Int} (h : ∀ (i : Nat) (x : Row [Leaf.int .u8]), l[i]? = some x → WfRow [Leaf.int .u8] x) : allB l = true := by
  simp only [allB, List.all_eq_true, Bool.and_eq_true, decide_eq_true_eq]
  intro x hx
  obtain ⟨i, hi⟩ := List.getElem?_of_mem hx
  have := h i x hi
  simp only [WfRow, WfL] at this
  simp [Lit.wf] at this
  exact this
theorem okBytes_of {a : Snd} (h : WfRow ti57.lv a) : okBytes a = true := by
  have h' := h
  simp only [ti57, WfRow, WfL] at h'
  simp only [okBytes, Bool.and_eq_true]
  exact ⟨bytes_of h'.2.2.1.2, bytes_of h'.2.2.2.2.2.2.2.2.2.2.2.2.2.2.2.2.2.2.1.2⟩
end Go.Te
