/-
  heliographlaw14.SenderGaps: what is claimed and what is not have, together, each byte once.
  No conditions: every input that the statement lets in. Part Sq: own work.
-/
import Derived.Test.YtfjklknekiogcaaSp
set_option linter.unusedVariables false
set_option linter.unusedSimpArgs false
set_option maxRecDepth 100000
namespace Go.Te
open Go.RowKit Go.Proofs

/-- A list gone through, as long as nothing is bad. -/
def scanR {α σ : Type} (bad : σ → α → Bool) (next : σ → α → σ) (ex : Nat) (r : σ → Nat → α → List TV × List Obj) (x : σ → List TV × List Obj) : σ → Nat → List α → TExit × List TV × List Obj
  | s, _, [] => (.exit ex, x s)
  | s, i, c :: cs => bif bad s c then (.ret, r s i c) else scanR bad next ex r x (next s c) (i + 1) cs
def scanB {α σ : Type} (bad : σ → α → Bool) (next : σ → α → σ) : σ → List α → Bool
  | _, [] => true
  | s, c :: cs => !bad s c && scanB bad next (next s c) cs
theorem scanR_B {α σ : Type} (bad : σ → α → Bool) (next : σ → α → σ) (ex : Nat) (r x : List TV × List Obj) : ∀ (l : List α) (s : σ) (i : Nat), scanR bad next ex (fun _ _ _ => r) (fun _ => x) s i l = bif scanB bad next s l then (.exit ex, x) else (.ret, r)
  | [], _, _ => rfl
  | c :: cs, s, i => by
    simp only [scanR, scanB]
    rw [scanR_B bad next ex r x cs]
    cases bad s c <;> rfl

theorem scanLoop {α σ : Type} {E : Env} {call : (R : Type) → Nat → List TV → List Obj → (TV → List Obj → Option R) → Option R} {fid nt : Nat} {body : Code} {p : Piece} (a : List α) (bad : σ → α → Bool) (next : σ → α → σ) (enc : σ → Int → List TV) (objs : List Obj) (ex : Nat)
    (r : σ → Nat → α → List TV × List Obj) (x : σ → List TV × List Obj) (hb : a.length < 1099511627776)
    (step : ∀ (s : σ) (i : Int) (K : TExit → List TV → List Obj → Option (TExit × List TV × List Obj)), evStep E call fid nt 0 body p (enc s i) objs K =
      bif decide (i < (a.length : Int)) then bif decide (0 ≤ i) then a[i.toNat]?.bind fun c => bif bad s c then K .ret (r s i.toNat c).1 (r s i.toNat c).2 else K .normal (enc (next s c) (IntKind.i64.wrap (i + 1))) objs else none else K (.exit ex) (x s).1 (x s).2) :
    ∀ k i (s : σ), a.length - i = k → i ≤ a.length → evLoop E call fid nt 0 body p (k + 1) (enc s (i : Int)) objs = some (scanR bad next ex r x s i (a.drop i)) := by
  intro k
  induction k with
  | zero =>
    intro i s hk hi
    rw [evLoop_succ, step]
    have h1 : decide ((i : Int) < (a.length : Int)) = false := by simp; omega
    rw [h1, List.drop_eq_nil_of_le (by omega)]
    rfl
  | succ k ih =>
    intro i s hk hi
    have hia : i < a.length := by omega
    rw [evLoop_succ, step]
    have h1 : decide ((i : Int) < (a.length : Int)) = true := by simp; omega
    have h0 : decide (0 ≤ (i : Int)) = true := by simp
    have hw : IntKind.i64.wrap ((i : Int) + 1) = ((i + 1 : Nat) : Int) := by
      rw [IntWalk.i64_in _ (by omega)]; push_cast; rfl
    rw [h1, h0, Int.toNat_natCast, List.getElem?_eq_getElem hia, hw]
    have hd : a.drop i = a[i] :: a.drop (i + 1) := List.drop_eq_getElem_cons hia
    rw [hd]
    simp only [cond_true, Option.bind_some, scanR]
    cases hbad : bad s a[i] with
    | true => rfl
    | false =>
      simp only [cond_false, nextR]
      exact ih (i + 1) (next s a[i]) (by omega) (by omega)

/-! Small functions. -/
def geI (a b : Int) : Bool := decide (a ≥ b)
def leI (a b : Int) : Bool := decide (a ≤ b)
def inI (a b c : Int) : Bool := geI a b && leI a c
noncomputable def con89 : Con := Con.all (dec3 false [.int .i64] false [.int .i64] false [.int .i64]) fun a => .d .bool (inI a.1 a.2.1 a.2.2)
theorem ev89 (a b c : Int) : evFn (R := TV × List Obj) SB sb 89 Try.f89 [j64 a, j64 b, j64 c] [] (fun v o => some (v, o)) = bif geI a b then some (.d .bool (leI a c), []) else some (.d .bool false, []) := by kernel_rfl
theorem okc89 : ConOK Try.prog 89 con89 := con_all SB_ok.toEnvOK (callAt_ok SB_ok 0) Try.func89 (by kernel_rfl) (by kernel_rfl) (fun c _ => pieces_none (fun _ => rfl) c) fun args a h => by
  rw [dec3_eq h]
  exact (ev89 a.1 a.2.1 a.2.2).trans (nestB rfl)
noncomputable def sr89 : SemRow Try.prog := ⟨89, Try.f89, ⟨Try.func89, by kernel_rfl⟩, con89, okc89, Con.all_natural _ _⟩
noncomputable def con131 : Con := con89
theorem ev131 (a b c : Int) : evFn (R := TV × List Obj) SB sb 131 Try.f131 [j64 a, j64 b, j64 c] [] (fun v o => some (v, o)) = bif geI a b then some (.d .bool (leI a c), []) else some (.d .bool false, []) := by kernel_rfl
theorem okc131 : ConOK Try.prog 131 con131 := con_all SB_ok.toEnvOK (callAt_ok SB_ok 0) Try.func131 (by kernel_rfl) (by kernel_rfl) (fun c _ => pieces_none (fun _ => rfl) c) fun args a h => by
  rw [dec3_eq h]
  exact (ev131 a.1 a.2.1 a.2.2).trans (nestB rfl)
noncomputable def sr131 : SemRow Try.prog := ⟨131, Try.f131, ⟨Try.func131, by kernel_rfl⟩, con131, okc131, Con.all_natural _ _⟩
end Go.Te
set_option linter.unusedVariables false
set_option linter.unusedSimpArgs false
set_option maxRecDepth 100000
namespace Go.Te
open Go.RowKit Go.Proofs
def outR4 : TExit → List Nat := fun e => match e with
  | .ret => [4]
  | _ => []
def outR6 : TExit → List Nat := fun e => match e with
  | .ret => [6]
  | .exit i => (bif Nat.beq i 0 then [0] else [])
  | _ => []
theorem or4 {X : Type} (a b c d : Bool) (x y : X) : (bif a then x else bif b then x else bif c then x else bif d then x else y) = bif (a || (b || (c || d))) then x else y := by
  cases a <;> cases b <;> cases c <;> cases d <;> rfl
def bad90 (n : Int) (en : Int) (c : Int × Int) : Bool := decide (c.2 < 1) || (decide (c.1 ≤ en) || (decide (c.1 ≥ n) || decide (c.2 > IntKind.i64.wrap (n - c.1))))
def nx90 (en : Int) (c : Int × Int) : Int := IntKind.i64.wrap (c.1 + c.2)

def S90 := List (Int × Int) × Int × Int × Int × Int
def dec90 (vals : List TV) (objs : List Obj) : Option S90 :=
  match vals, objs with
  | [.d (.int .i64) n, .d (.int .i64) en, .d (.sl ea) l, .d (.int .i64) m, .d (.int .i64) i], [] => (rowCast ea Cl l).bind fun l => some (l, n, en, m, i)
  | _, _ => none
theorem dec90_eq {vals : List TV} {objs : List Obj} {l : List (Int × Int)} {n en m i : Int} (h : dec90 vals objs = some (l, n, en, m, i)) : vals = [j64 n, j64 en, .d (.sl Cl) l, j64 m, j64 i] ∧ objs = [] := by
  unfold dec90 at h
  split at h
  · rename_i n' en' ea l' m' i'
    obtain ⟨a', ha, h⟩ := Option.bind_eq_some_iff.1 h
    obtain ⟨e1, q1⟩ := rowCast_ok ha
    subst e1
    have q1 : l' = a' := q1
    subst q1
    injection h with h
    injection h with h1 h
    injection h with h2 h
    injection h with h3 h
    injection h with h4 h5
    subst h1; subst h2; subst h3; subst h4; subst h5
    exact ⟨rfl, rfl⟩
  · cases h
def ok90 (s : S90) : Bool := decide (s.2.2.2.1 = (s.1.length : Int) ∧ s.2.2.2.2 = 0 ∧ s.1.length < 1099511627776)
noncomputable def piece90 : Piece := Piece.two [1, 5, 8, 9, 10] outR4 dec90 ok90 (fun s => scanB (bad90 s.2.1) nx90 s.2.2.1 s.1) (.exit 0) .ret (fun s => ([], [])) (fun _ => ([.d .bool false], []))
theorem step90 {R : Type} (l : List (Int × Int)) (n en m i : Int) (K : TExit → List TV → List Obj → Option R) : evStep SB sb 90 44 0 (loopAt Try.f90.body 6) piece90 [j64 n, j64 en, .d (.sl Cl) l, j64 m, j64 i] [] K =
    bif decide (i < m) then bif decide (0 ≤ i) then l[i.toNat]?.bind fun c => bif decide (c.2 < 1) then K .ret [.d .bool false] [] else bif decide (c.1 ≤ en) then K .ret [.d .bool false] [] else bif decide (c.1 ≥ n) then K .ret [.d .bool false] [] else bif decide (c.2 > IntKind.i64.wrap (n - c.1)) then K .ret [.d .bool false] [] else K .normal [j64 n, j64 (IntKind.i64.wrap (c.1 + c.2)), .d (.sl Cl) l, j64 m, j64 (IntKind.i64.wrap (i + 1))] [] else none else K (.exit 0) [] [] := by kernel_rfl
theorem lp90 (l : List (Int × Int)) (n en m i : Int) (hok : ok90 (l, n, en, m, i) = true) : ∃ k, evLoop SB sb 90 44 0 (loopAt Try.f90.body 6) piece90 k [j64 n, j64 en, .d (.sl Cl) l, j64 m, j64 i] [] = some (bif scanB (bad90 n) nx90 en l then (.exit 0, ([], [])) else (.ret, ([.d .bool false], []))) := by
  simp only [ok90, decide_eq_true_eq] at hok
  obtain ⟨h1, h2, h3⟩ := hok
  subst h1; subst h2
  have := scanLoop (E := SB) (call := sb) (fid := 90) (nt := 44) (body := loopAt Try.f90.body 6) (p := piece90) l (bad90 n) nx90 (fun en i => [j64 n, j64 en, .d (.sl Cl) l, j64 (l.length : Int), j64 i]) [] 0 (fun _ _ _ => ([.d .bool false], [])) (fun _ => ([], [])) h3 (fun en i K => by
    refine (step90 l n en _ i K).trans ?_
    simp only [bad90, nx90, or4]) l.length 0 en (Nat.sub_zero _) (Nat.zero_le _)
  rw [scanR_B, List.drop_zero] at this
  exact ⟨_, this⟩
theorem pok90 (ρ : Option Nat) : PieceOK Try.prog ρ 44 (.loop (loopAt Try.f90.body 6)) piece90 := by
  refine two_ok (fid := 90) SB_ok (pieces_none (fun _ => rfl) _) fun vals objs s hs hok => ?_
  obtain ⟨l, n, en, m, i⟩ := s
  obtain ⟨e1, e2⟩ := dec90_eq hs
  subst e1; subst e2
  exact lp90 l n en m i hok
noncomputable def E90 : Env := specEnv (P := Try.prog) (tyAt tab) [] (fun f k => bif Nat.beq f 90 && Nat.beq k 6 then some piece90 else none)
theorem E90_ok : EnvAll Try.prog E90 := specEnv_ok tOk (by kernel_rfl)
theorem nodes90 : nodes (nbody Try.f90.body) = [(6, .loop (loopAt Try.f90.body 6))] := by kernel_rfl
theorem pcs90 (c : Code) (hc : Try.f90.body = some c) : PiecesOK Try.prog E90 none 90 Try.f90.ntmps c := by
  have hn : nodes c = [(6, .loop (loopAt Try.f90.body 6))] := by rw [← nodes90, hc]; rfl
  have hr : rangeFlat false (nbody Try.f90.body) = true := by kernel_rfl
  rw [hc] at hr
  refine pieces_tab (fun c' => ?_) c hr fun x hx p hp => ?_
  · have h2 := condKey_odd c'
    show (bif Nat.beq 90 90 && Nat.beq (condKey c') 6 then some piece90 else none) = none
    cases hb : Nat.beq (condKey c') 6 with
    | true => rw [Nat.eq_of_beq_eq_true hb] at h2; cases h2
    | false => rfl
  · rw [hn] at hx
    simp only [List.mem_singleton] at hx
    subst hx
    have hp : some piece90 = some p := hp
    cases hp
    exact pok90 none
noncomputable def con90 : Con := Con.part (dec2 false [.sl Cl] false [.int .i64]) (fun a => decide (List.length (α := Int × Int) a.1 < 1099511627776)) (fun a => .d .bool (scanB (bad90 a.2) nx90 (-1) a.1))
theorem ev90 (l : List (Int × Int)) (n : Int) : evFn (R := TV × List Obj) E90 (fun R => callAt (R := R) E90 0) 90 Try.f90 [.d (.sl Cl) l, j64 n] [] (fun v o => some (v, o)) =
    bif ok90 (l, n, -1, (l.length : Int), 0) then (bif scanB (bad90 n) nx90 (-1) l then some (.d .bool true, []) else some (.d .bool false, [])) else none := by kernel_rfl
theorem pl90 (l : List (Int × Int)) (n : Int) (h : l.length < 1099511627776) : (bif ok90 (l, n, -1, (l.length : Int), 0) then (bif scanB (bad90 n) nx90 (-1) l then some (.d .bool true, []) else some (.d .bool false, [])) else none : Option (TV × List Obj)) = some (.d .bool (scanB (bad90 n) nx90 (-1) l), []) := by
  have h2 : ok90 (l, n, -1, (l.length : Int), 0) = true := by
    simp only [ok90, decide_eq_true_eq]
    exact ⟨trivial, trivial, h⟩
  rw [h2]
  cases scanB (bad90 n) nx90 (-1) l <;> rfl
theorem okc90 : ConOK Try.prog 90 con90 := by
  refine con_part E90_ok Try.func90 (by kernel_rfl) (by kernel_rfl) pcs90 fun args a h hok => ?_
  obtain ⟨l, n⟩ := a
  rw [dec2_eq h]
  exact (ev90 l n).trans (pl90 l n (of_decide_eq_true hok))
noncomputable def sr90 : SemRow Try.prog := ⟨90, Try.f90, ⟨Try.func90, by kernel_rfl⟩, con90, okc90, Con.part_natural _ _ _⟩
end Go.Te
set_option linter.unusedVariables false
set_option linter.unusedSimpArgs false
set_option maxRecDepth 100000
namespace Go.Te
open Go.RowKit Go.Proofs
/-! Contracts that tell whatever is told. -/
theorem bif_bind {α β : Type} (c : Bool) (x y : Option α) (k : α → Option β) : (bif c then x else y).bind k = bif c then x.bind k else y.bind k := by cases c <;> rfl
def Con.opt {A B : Type} [Inhabited B] (dec : List TV → Option A) (F : A → Option B) (tv : B → TV) : Con := Con.part dec (fun a => (F a).isSome) (fun a => tv ((F a).getD default))
theorem con_opt {P : Program} {E : Env} (hE : EnvAll P E) {f : Nat} {fn : Func} (hf : P.funcs[f]? = some fn) (hname : (fn.name == "runtime.NumGoroutine") = false) (hbody : fn.body.isNone = false) (hp : ∀ c, fn.body = some c → PiecesOK P E none f fn.ntmps c)
    {A B : Type} [Inhabited B] {dec : List TV → Option A} {F : A → Option B} {tv : B → TV} (h : ∀ args a, dec args = some a → evFn (R := TV × List Obj) E (fun R => callAt (R := R) E 0) f fn args [] (fun v o => some (v, o)) = (F a).bind fun b => some (tv b, [])) : ConOK P f (Con.opt dec F tv) := by
  refine con_part hE hf hname hbody hp fun args a ha hok => ?_
  rw [h args a ha]
  obtain ⟨b, hb⟩ := Option.isSome_iff_exists.1 hok
  rw [hb]; rfl

/-! segment.claimed -/
def S132 := List (Int × Int) × List (Int × Int) × Int × Int × Int × Int
def dec132 (vals : List TV) (objs : List Obj) : Option S132 :=
  match vals, objs with
  | [.d (.sl ea) l, .d (.int .i64) n, .d (.int .i64) en, .d (.sl eb) l2, .d (.int .i64) m, .d (.int .i64) i], [] => (rowCast ea Cl l).bind fun l => (rowCast eb Cl l2).bind fun l2 => some (l, l2, n, en, m, i)
  | _, _ => none
theorem dec132_eq {vals : List TV} {objs : List Obj} {l l2 : List (Int × Int)} {n en m i : Int} (h : dec132 vals objs = some (l, l2, n, en, m, i)) : vals = [.d (.sl Cl) l, j64 n, j64 en, .d (.sl Cl) l2, j64 m, j64 i] ∧ objs = [] := by
  unfold dec132 at h
  split at h
  · rename_i ea l' n' en' eb l2' m' i'
    obtain ⟨a', ha, h⟩ := Option.bind_eq_some_iff.1 h
    obtain ⟨b', hb, h⟩ := Option.bind_eq_some_iff.1 h
    obtain ⟨e1, q1⟩ := rowCast_ok ha
    obtain ⟨e2, q2⟩ := rowCast_ok hb
    subst e1; subst e2
    have q1 : l' = a' := q1
    have q2 : l2' = b' := q2
    subst q1; subst q2
    injection h with h
    injection h with h1 h
    injection h with h2 h
    injection h with h3 h
    injection h with h4 h
    injection h with h5 h6
    subst h1; subst h2; subst h3; subst h4; subst h5; subst h6
    exact ⟨rfl, rfl⟩
  · cases h
def ok132 (s : S132) : Bool := decide (s.2.2.2.2.1 = (s.2.1.length : Int) ∧ s.2.2.2.2.2 = 0 ∧ s.2.1.length < 1099511627776)
noncomputable def piece132 : Piece := Piece.two [0, 2, 7, 12, 13, 14] outR6 dec132 ok132 (fun s => scanB (bad90 s.2.2.1) nx90 s.2.2.2.1 s.2.1) (.exit 0) .ret (fun s => ([.d (.sl Cl) s.1], [])) (fun _ => ([.d .bool false], []))
theorem step132 {R : Type} (l l2 : List (Int × Int)) (n en m i : Int) (K : TExit → List TV → List Obj → Option R) : evStep SB sb 132 51 0 (loopAt Try.f132.body 6) piece132 [.d (.sl Cl) l, j64 n, j64 en, .d (.sl Cl) l2, j64 m, j64 i] [] K =
    bif decide (i < m) then bif decide (0 ≤ i) then l2[i.toNat]?.bind fun c => bif decide (c.2 < 1) then K .ret [.d .bool false] [] else bif decide (c.1 ≤ en) then K .ret [.d .bool false] [] else bif decide (c.1 ≥ n) then K .ret [.d .bool false] [] else bif decide (c.2 > IntKind.i64.wrap (n - c.1)) then K .ret [.d .bool false] [] else K .normal [.d (.sl Cl) l, j64 n, j64 (IntKind.i64.wrap (c.1 + c.2)), .d (.sl Cl) l2, j64 m, j64 (IntKind.i64.wrap (i + 1))] [] else none else K (.exit 0) [.d (.sl Cl) l] [] := by kernel_rfl
theorem lp132 (l l2 : List (Int × Int)) (n en m i : Int) (hok : ok132 (l, l2, n, en, m, i) = true) : ∃ k, evLoop SB sb 132 51 0 (loopAt Try.f132.body 6) piece132 k [.d (.sl Cl) l, j64 n, j64 en, .d (.sl Cl) l2, j64 m, j64 i] [] = some (bif scanB (bad90 n) nx90 en l2 then (.exit 0, ([.d (.sl Cl) l], [])) else (.ret, ([.d .bool false], []))) := by
  simp only [ok132, decide_eq_true_eq] at hok
  obtain ⟨h1, h2, h3⟩ := hok
  subst h1; subst h2
  have := scanLoop (E := SB) (call := sb) (fid := 132) (nt := 51) (body := loopAt Try.f132.body 6) (p := piece132) l2 (bad90 n) nx90 (fun en i => [.d (.sl Cl) l, j64 n, j64 en, .d (.sl Cl) l2, j64 (l2.length : Int), j64 i]) [] 0 (fun _ _ _ => ([.d .bool false], [])) (fun _ => ([.d (.sl Cl) l], [])) h3 (fun en i K => by
    refine (step132 l l2 n en _ i K).trans ?_
    simp only [bad90, nx90, or4]) l2.length 0 en (Nat.sub_zero _) (Nat.zero_le _)
  rw [scanR_B, List.drop_zero] at this
  exact ⟨_, this⟩
theorem pok132 (ρ : Option Nat) : PieceOK Try.prog ρ 51 (.loop (loopAt Try.f132.body 6)) piece132 := by
  refine two_ok (fid := 132) SB_ok (pieces_none (fun _ => rfl) _) fun vals objs s hs hok => ?_
  obtain ⟨l, l2, n, en, m, i⟩ := s
  obtain ⟨e1, e2⟩ := dec132_eq hs
  subst e1; subst e2
  exact lp132 l l2 n en m i hok
noncomputable def E132 : Env := specEnv (P := Try.prog) (tyAt tab) [] (fun f k => bif Nat.beq f 132 && Nat.beq k 6 then some piece132 else none)
theorem E132_ok : EnvAll Try.prog E132 := specEnv_ok tOk (by kernel_rfl)
theorem nodes132 : nodes (nbody Try.f132.body) = [(6, .loop (loopAt Try.f132.body 6))] := by kernel_rfl
theorem pcs132 (c : Code) (hc : Try.f132.body = some c) : PiecesOK Try.prog E132 none 132 Try.f132.ntmps c := by
  have hn : nodes c = [(6, .loop (loopAt Try.f132.body 6))] := by rw [← nodes132, hc]; rfl
  have hr : rangeFlat false (nbody Try.f132.body) = true := by kernel_rfl
  rw [hc] at hr
  refine pieces_tab (fun c' => ?_) c hr fun x hx p hp => ?_
  · have h2 := condKey_odd c'
    show (bif Nat.beq 132 132 && Nat.beq (condKey c') 6 then some piece132 else none) = none
    cases hb : Nat.beq (condKey c') 6 with
    | true => rw [Nat.eq_of_beq_eq_true hb] at h2; cases h2
    | false => rfl
  · rw [hn] at hx
    simp only [List.mem_singleton] at hx
    subst hx
    have hp : some piece132 = some p := hp
    cases hp
    exact pok132 none

def spec132 (l : List (Int × Int)) (lo n : Int) : Bool := scanB (bad90 n) nx90 (IntKind.i64.wrap (lo - 1)) l && decide ((l.length : Int) ≤ 20)
noncomputable def con132 : Con := Con.part (dec3 false [.sl Cl] false [.int .i64] false [.int .i64]) (fun a => decide (List.length (α := Int × Int) a.1 < 1099511627776)) (fun a => .d .bool (spec132 a.1 a.2.1 a.2.2))
theorem ev132 (l : List (Int × Int)) (lo n : Int) : evFn (R := TV × List Obj) E132 (fun R => callAt (R := R) E132 0) 132 Try.f132 [.d (.sl Cl) l, j64 lo, j64 n] [] (fun v o => some (v, o)) =
    bif ok132 (l, l, n, IntKind.i64.wrap (lo - 1), (l.length : Int), 0) then (bif scanB (bad90 n) nx90 (IntKind.i64.wrap (lo - 1)) l then some (.d .bool (decide ((l.length : Int) ≤ 20)), []) else some (.d .bool false, [])) else none := by kernel_rfl
theorem okc132 : ConOK Try.prog 132 con132 := by
  refine con_part E132_ok Try.func132 (by kernel_rfl) (by kernel_rfl) pcs132 fun args a h hok => ?_
  obtain ⟨l, lo, n⟩ := a
  rw [dec3_eq h]
  refine (ev132 l lo n).trans (nestG ?_ (nestB rfl))
  simp only [ok132, decide_eq_true_eq]
  exact ⟨trivial, trivial, of_decide_eq_true hok⟩
noncomputable def sr132 : SemRow Try.prog := ⟨132, Try.f132, ⟨Try.func132, by kernel_rfl⟩, con132, okc132, Con.part_natural _ _ _⟩

/-! slices.Index, Contains -/
def idx (v : Int) : Nat → List Int → Int
  | _, [] => -1
  | i, x :: l => bif v == x then (i : Int) else idx v (i + 1) l
theorem scanR_idx (v : Int) (x : List TV × List Obj) : ∀ (l : List Int) (i : Nat), scanR (fun (_ : Unit) c => v == c) (fun _ _ => ()) 0 (fun _ i _ => ([j64 (i : Int)], [])) (fun _ => x) () i l = bif l.contains v then (.ret, ([j64 (idx v i l)], [])) else (.exit 0, x)
  | [], i => rfl
  | c :: cs, i => by
    simp only [scanR, idx, List.contains_cons]
    rw [scanR_idx v x cs (i + 1)]
    cases v == c <;> rfl
def S133 := List Int × Int × Int × Int
def dec133 (vals : List TV) (objs : List Obj) : Option S133 :=
  match vals, objs with
  | [.d (.sl ea) l, .d (.int .u32) v, .d (.int .i64) m, .d (.int .i64) i], [] => (rowCast ea [.int .u32] l).bind fun l => some (l, v, m, i)
  | _, _ => none

theorem dec133_eq {vals : List TV} {objs : List Obj} {l : List Int} {v m i : Int} (h : dec133 vals objs = some (l, v, m, i)) : vals = [.d (.sl [.int .u32]) l, .d (.int .u32) v, j64 m, j64 i] ∧ objs = [] := by
  unfold dec133 at h
  split at h
  · rename_i ea l' v' m' i'
    obtain ⟨a', ha, h⟩ := Option.bind_eq_some_iff.1 h
    obtain ⟨e1, q1⟩ := rowCast_ok ha
    subst e1
    have q1 : l' = a' := q1
    subst q1
    injection h with h
    injection h with h1 h
    injection h with h2 h
    injection h with h3 h4
    subst h1; subst h2; subst h3; subst h4
    exact ⟨rfl, rfl⟩
  · cases h
def ok133 (s : S133) : Bool := decide (s.2.2.1 = (s.1.length : Int) ∧ s.2.2.2 = 0 ∧ s.1.length < 1099511627776)
def has (l : List Int) (v : Int) : Bool := l.contains v
noncomputable def piece133 : Piece := Piece.two [0, 1, 7, 8] outR4 dec133 ok133 (fun s => !has s.1 s.2.1) (.exit 0) .ret (fun s => ([], [])) (fun s => ([j64 (idx s.2.1 0 s.1)], []))
theorem step133 {R : Type} (l : List Int) (v m i : Int) (K : TExit → List TV → List Obj → Option R) : evStep SB sb 133 19 0 (loopAt Try.f133.body 4) piece133 [.d (.sl [.int .u32]) l, .d (.int .u32) v, j64 m, j64 i] [] K =
    bif decide (i < m) then bif decide (0 ≤ i) then l[i.toNat]?.bind fun c => bif v == c then K .ret [j64 i] [] else K .normal [.d (.sl [.int .u32]) l, .d (.int .u32) v, j64 m, j64 (IntKind.i64.wrap (i + 1))] [] else none else K (.exit 0) [] [] := by kernel_rfl
theorem lp133 (l : List Int) (v m i : Int) (hok : ok133 (l, v, m, i) = true) : ∃ k, evLoop SB sb 133 19 0 (loopAt Try.f133.body 4) piece133 k [.d (.sl [.int .u32]) l, .d (.int .u32) v, j64 m, j64 i] [] = some (bif !has l v then (.exit 0, ([], [])) else (.ret, ([j64 (idx v 0 l)], []))) := by
  simp only [ok133, decide_eq_true_eq] at hok
  obtain ⟨h1, h2, h3⟩ := hok
  subst h1; subst h2
  have := scanLoop (E := SB) (call := sb) (fid := 133) (nt := 19) (body := loopAt Try.f133.body 4) (p := piece133) l (fun (_ : Unit) c => v == c) (fun _ _ => ()) (fun _ i => [.d (.sl [.int .u32]) l, .d (.int .u32) v, j64 (l.length : Int), j64 i]) [] 0 (fun _ i _ => ([j64 (i : Int)], [])) (fun _ => ([], [])) h3 (fun _ i K => by
    refine (step133 l v _ i K).trans ?_
    cases h0 : decide (0 ≤ i) with
    | false => rfl
    | true =>
      have hi := of_decide_eq_true h0
      rw [show ((i.toNat : Nat) : Int) = i by omega]) l.length 0 () (Nat.sub_zero _) (Nat.zero_le _)
  rw [scanR_idx, List.drop_zero] at this
  refine ⟨_, this.trans ?_⟩
  unfold has
  cases l.contains v <;> rfl
theorem pok133 (ρ : Option Nat) : PieceOK Try.prog ρ 19 (.loop (loopAt Try.f133.body 4)) piece133 := by
  refine two_ok (fid := 133) SB_ok (pieces_none (fun _ => rfl) _) fun vals objs s hs hok => ?_
  obtain ⟨l, v, m, i⟩ := s
  obtain ⟨e1, e2⟩ := dec133_eq hs
  subst e1; subst e2
  exact lp133 l v m i hok
noncomputable def E133 : Env := specEnv (P := Try.prog) (tyAt tab) [] (fun f k => bif Nat.beq f 133 && Nat.beq k 4 then some piece133 else none)
theorem E133_ok : EnvAll Try.prog E133 := specEnv_ok tOk (by kernel_rfl)
theorem nodes133 : nodes (nbody Try.f133.body) = [(4, .loop (loopAt Try.f133.body 4))] := by kernel_rfl
theorem pcs133 (c : Code) (hc : Try.f133.body = some c) : PiecesOK Try.prog E133 none 133 Try.f133.ntmps c := by
  have hn : nodes c = [(4, .loop (loopAt Try.f133.body 4))] := by rw [← nodes133, hc]; rfl
  have hr : rangeFlat false (nbody Try.f133.body) = true := by kernel_rfl
  rw [hc] at hr
  refine pieces_tab (fun c' => ?_) c hr fun x hx p hp => ?_
  · have h2 := condKey_odd c'
    show (bif Nat.beq 133 133 && Nat.beq (condKey c') 4 then some piece133 else none) = none
    cases hb : Nat.beq (condKey c') 4 with
    | true => rw [Nat.eq_of_beq_eq_true hb] at h2; cases h2
    | false => rfl
  · rw [hn] at hx
    simp only [List.mem_singleton] at hx
    subst hx
    have hp : some piece133 = some p := hp
    cases hp
    exact pok133 none

def spec133 (l : List Int) (v : Int) : Int := bif has l v then idx v 0 l else -1
noncomputable def con133 : Con := Con.part (dec2 false [.sl [.int .u32]] false [.int .u32]) (fun a => decide (List.length (α := Int) a.1 < 1099511627776)) (fun a => j64 (spec133 a.1 a.2))
theorem ev133 (l : List Int) (v : Int) : evFn (R := TV × List Obj) E133 (fun R => callAt (R := R) E133 0) 133 Try.f133 [.d (.sl [.int .u32]) l, .d (.int .u32) v] [] (fun v o => some (v, o)) =
    bif ok133 (l, v, (l.length : Int), 0) then (bif !has l v then some (j64 (-1), []) else some (j64 (idx v 0 l), [])) else none := by kernel_rfl
theorem pl133 (l : List Int) (v : Int) (h : l.length < 1099511627776) : (bif ok133 (l, v, (l.length : Int), 0) then (bif !has l v then some (j64 (-1), []) else some (j64 (idx v 0 l), [])) else none : Option (TV × List Obj)) = some (j64 (spec133 l v), []) := by
  have h2 : ok133 (l, v, (l.length : Int), 0) = true := by
    simp only [ok133, decide_eq_true_eq]
    exact ⟨trivial, trivial, h⟩
  rw [h2]
  unfold spec133
  cases has l v <;> rfl
theorem okc133 : ConOK Try.prog 133 con133 := by
  refine con_part E133_ok Try.func133 (by kernel_rfl) (by kernel_rfl) pcs133 fun args a h hok => ?_
  obtain ⟨l, v⟩ := a
  rw [dec2_eq h]
  exact (ev133 l v).trans (pl133 l v (of_decide_eq_true hok))
noncomputable def sr133 : SemRow Try.prog := ⟨133, Try.f133, ⟨Try.func133, by kernel_rfl⟩, con133, okc133, Con.part_natural _ _ _⟩
theorem idx_nonneg (v : Int) : ∀ (l : List Int) (i : Nat), l.contains v = true → 0 ≤ idx v i l
  | [], _, h => by simp at h
  | x :: l, i, h => by
    rw [List.contains_cons] at h
    unfold idx
    cases hx : v == x with
    | true => exact Int.natCast_nonneg i
    | false => rw [hx] at h; exact idx_nonneg v l (i + 1) (by simpa using h)
theorem spec133_ge (l : List Int) (v : Int) : decide (spec133 l v ≥ 0) = has l v := by
  unfold spec133
  cases hh : has l v with
  | false => rfl
  | true => exact decide_eq_true (idx_nonneg v l 0 hh)
noncomputable def con93 : Con := Con.part (dec2 false [.sl [.int .u32]] false [.int .u32]) (fun a => decide (List.length (α := Int) a.1 < 1099511627776)) (fun a => .d .bool (has a.1 a.2))
noncomputable def E93 : Env := specEnv (tyAt tab) [sr133] (fun _ _ => none)
theorem E93_ok : EnvAll Try.prog E93 := specEnv_ok tOk (by kernel_rfl)
theorem ev93 (l : List Int) (v : Int) : evFn (R := TV × List Obj) E93 (fun R => callAt (R := R) E93 0) 93 Try.f93 [.d (.sl [.int .u32]) l, .d (.int .u32) v] [] (fun v o => some (v, o)) =
    bif decide (l.length < 1099511627776) then some (.d .bool (decide (spec133 l v ≥ 0)), []) else none := by kernel_rfl
theorem pl93 (l : List Int) (v : Int) : (some (.d .bool (decide (spec133 l v ≥ 0)), []) : Option (TV × List Obj)) = some (.d .bool (has l v), []) := by rw [spec133_ge]
theorem okc93 : ConOK Try.prog 93 con93 := by
  refine con_part E93_ok Try.func93 (by kernel_rfl) (by kernel_rfl) (fun c _ => pieces_none (fun _ => rfl) c) fun args a h hok => ?_
  obtain ⟨l, v⟩ := a
  rw [dec2_eq h]
  exact (ev93 l v).trans (nestG hok (pl93 l v))
noncomputable def sr93 : SemRow Try.prog := ⟨93, Try.f93, ⟨Try.func93, by kernel_rfl⟩, con93, okc93, Con.part_natural _ _ _⟩

/-! sender.begins -/
def spec82 (a : Int × Int × List Int × Int × Int) : Bool := inI a.1 1 6 && (decide (a.2.1 > 0) && (inI (a.2.2.1.length : Int) 1 512 && (inI a.2.2.2.1 1 4096 && inI a.2.2.2.2 1 16)))
noncomputable def E82 : Env := specEnv (tyAt tab) [sr89] (fun _ _ => none)
theorem E82_ok : EnvAll Try.prog E82 := specEnv_ok tOk (by kernel_rfl)
theorem ev82 (a : Int × Int × List Int × Int × Int) : evFn (R := TV × List Obj) E82 (fun R => callAt (R := R) E82 0) 82 Try.f82 [argT true ti51.lv a] [] (fun v o => some (v, o)) = bif inI a.1 1 6 then bif decide (a.2.1 > 0) then bif inI (a.2.2.1.length : Int) 1 512 then bif inI a.2.2.2.1 1 4096 then some (.d .bool (inI a.2.2.2.2 1 16), []) else some (.d .bool false, []) else some (.d .bool false, []) else some (.d .bool false, []) else some (.d .bool false, []) := by kernel_rfl
noncomputable def con82 : Con := Con.all (dec1 true ti51.lv) fun a => .d .bool (spec82 a)
theorem okc82 : ConOK Try.prog 82 con82 := con_all E82_ok.toEnvOK (callAt_ok E82_ok 0) Try.func82 (by kernel_rfl) (by kernel_rfl) (fun c _ => pieces_none (fun _ => rfl) c) fun args a h => by
  rw [dec1_eq h]
  exact (ev82 a).trans (nestB (nestB (nestB (nestB rfl))))
noncomputable def sr82 : SemRow Try.prog := ⟨82, Try.f82, ⟨Try.func82, by kernel_rfl⟩, con82, okc82, Con.all_natural _ _⟩
end Go.Te
set_option linter.unusedVariables false
set_option linter.unusedSimpArgs false
set_option maxRecDepth 100000
namespace Go.Te
open Go.RowKit Go.Proofs
/-! segment.Check -/
abbrev SegT := Int × Int × Int × Int × Int × Int × Int × Int × Int × Int × Bool × List Int × List (Int × Int)
def eqSegT (a b : SegT) : Bool := eqSeg a b
def okSegT (a : SegT) : Bool := okSeg a
def f91 {X : Type} (a : SegT) (k : Int → Option X) : Option X := bif inI a.2.1 1 6 then bif a.1 == 1 then bif decide (a.2.2.1 > 0) then bif inI a.2.2.2.2.2.2.1 1 512 then bif inI (((List.length a.2.2.2.2.2.2.2.2.2.2.2.1) : Int)) 1 100 then bif inI a.2.2.2.2.2.1 0 (IntKind.i64.wrap (a.2.2.2.2.2.2.1 - ((List.length a.2.2.2.2.2.2.2.2.2.2.2.1) : Int))) then bif !a.2.2.2.2.2.2.2.2.2.2.1 == decide (a.2.2.2.1 > 0) then k (200) else bif okSegT a then bif !eqSegT a (a.1, a.2.1, a.2.2.1, a.2.2.2.1, 0, a.2.2.2.2.2.1, a.2.2.2.2.2.2.1, 0, 0, 0, a.2.2.2.2.2.2.2.2.2.2.1, a.2.2.2.2.2.2.2.2.2.2.2.1, []) then k (200) else k (0) else none else k (200) else k (200) else k (200) else k (200) else bif a.1 == 2 then bif decide (a.2.2.1 > 0) then bif decide (a.2.2.2.1 > 0) then bif decide (a.2.2.2.2.1 > 0) then bif inI a.2.2.2.2.2.2.2.2.1 1 512 then bif inI a.2.2.2.2.2.2.2.1 0 (IntKind.i64.wrap (a.2.2.2.2.2.2.2.2.1 - 1)) then bif decide (List.length a.2.2.2.2.2.2.2.2.2.2.2.2 < 1099511627776) then bif !spec132 a.2.2.2.2.2.2.2.2.2.2.2.2 a.2.2.2.2.2.2.2.1 a.2.2.2.2.2.2.2.2.1 then k (200) else bif okSegT a then bif !eqSegT a (a.1, a.2.1, a.2.2.1, a.2.2.2.1, a.2.2.2.2.1, 0, 0, a.2.2.2.2.2.2.2.1, a.2.2.2.2.2.2.2.2.1, 0, false, [], a.2.2.2.2.2.2.2.2.2.2.2.2) then k (200) else k (0) else none else none else k (200) else k (200) else k (200) else k (200) else k (200) else bif a.1 == 3 then bif decide (a.2.2.1 > 0) then bif !decide (a.2.2.2.1 > 0) then k (200) else bif okSegT a then bif !eqSegT a (a.1, a.2.1, a.2.2.1, a.2.2.2.1, 0, 0, 0, 0, 0, 0, false, [], []) then k (200) else k (0) else none else k (200) else bif a.1 == 4 then bif decide (a.2.2.1 > 0) then bif !inI a.2.2.2.2.2.2.2.2.2.1 0 255 then k (200) else bif okSegT a then bif !eqSegT a (a.1, a.2.1, a.2.2.1, 0, 0, 0, 0, 0, 0, a.2.2.2.2.2.2.2.2.2.1, false, [], []) then k (200) else k (0) else none else k (200) else bif a.1 == 6 then bif decide (a.2.2.1 > 0) then bif !inI a.2.2.2.2.2.2.2.2.2.1 0 255 then k (200) else bif okSegT a then bif !eqSegT a (a.1, a.2.1, a.2.2.1, 0, 0, 0, 0, 0, 0, a.2.2.2.2.2.2.2.2.2.1, false, [], []) then k (200) else k (0) else none else k (200) else bif a.1 == 5 then bif !decide (a.2.2.1 > 0) then k (200) else bif okSegT a then bif !eqSegT a (a.1, a.2.1, a.2.2.1, 0, 0, 0, 0, 0, 0, 0, false, [], []) then k (200) else k (0) else none else bif a.1 == 7 then bif !decide (a.2.2.1 > 0) then k (200) else bif okSegT a then bif !eqSegT a (a.1, a.2.1, a.2.2.1, 0, 0, 0, 0, 0, 0, 0, false, [], []) then k (200) else k (0) else none else k (200) else bif a.1 == 1 then k (200) else bif a.1 == 2 then k (200) else bif a.1 == 3 then k (200) else bif a.1 == 4 then k (200) else bif a.1 == 6 then k (200) else bif a.1 == 5 then k (200) else bif a.1 == 7 then k (200) else k (200)
theorem nat91 {X : Type} (a : SegT) (k : Int → Option X) : f91 a k = (f91 a some).bind k := by
  simp only [f91, bif_bind, Option.bind_some, Option.bind_none]
def F91 (a : SegT) : Option Int := f91 a some
noncomputable def E91 : Env := specEnv (tyAt tab) [sr131, sr97, sr132] (fun _ _ => none)
theorem E91_ok : EnvAll Try.prog E91 := specEnv_ok tOk (by kernel_rfl)
theorem ev91 (a : SegT) : evFn (R := TV × List Obj) E91 (fun R => callAt (R := R) E91 0) 91 Try.f91 [argT true ti54.lv a] [] (fun v o => some (v, o)) = f91 a fun v => some (j64 v, []) := by kernel_rfl
noncomputable def con91 : Con := Con.opt (dec1 true ti54.lv) F91 j64
theorem okc91 : ConOK Try.prog 91 con91 := con_opt E91_ok Try.func91 (by kernel_rfl) (by kernel_rfl) (fun c _ => pieces_none (fun _ => rfl) c) fun args a h => by
  rw [dec1_eq h]
  exact (ev91 a).trans (nat91 a _)
noncomputable def sr91 : SemRow Try.prog := ⟨91, Try.f91, ⟨Try.func91, by kernel_rfl⟩, con91, okc91, Con.part_natural _ _ _⟩
end Go.Te
set_option linter.unusedVariables false
set_option linter.unusedSimpArgs false
set_option maxRecDepth 100000
namespace Go.Te
open Go.RowKit Go.Proofs
/-! sender.Check -/
abbrev SndT := Int × Int × List Int × Int × Int × Int × List (Int × Int) × Int × Int × Int × Int × Int × Int × Int × Int × Int × Int × Bool × List Int × List (Int × Int) × Int × Int × List Int × Int
def f27 {X : Type} (a : SndT) (k : Int → Option X) : Option X := bif !spec82 (a.1, a.2.1, a.2.2.1, a.2.2.2.1, a.2.2.2.2.1) then k (240) else bif !inI a.2.2.2.2.2.1 1 4 then k (240) else bif decide (List.length a.2.2.2.2.2.2.1 < 1099511627776) then bif !scanB (bad90 ((List.length a.2.2.1) : Int)) nx90 (-1) a.2.2.2.2.2.2.1 then k (240) else bif (F91 (a.2.2.2.2.2.2.2.1, a.2.2.2.2.2.2.2.2.1, a.2.2.2.2.2.2.2.2.2.1, a.2.2.2.2.2.2.2.2.2.2.1, a.2.2.2.2.2.2.2.2.2.2.2.1, a.2.2.2.2.2.2.2.2.2.2.2.2.1, a.2.2.2.2.2.2.2.2.2.2.2.2.2.1, a.2.2.2.2.2.2.2.2.2.2.2.2.2.2.1, a.2.2.2.2.2.2.2.2.2.2.2.2.2.2.2.1, a.2.2.2.2.2.2.2.2.2.2.2.2.2.2.2.2.1, a.2.2.2.2.2.2.2.2.2.2.2.2.2.2.2.2.2.1, a.2.2.2.2.2.2.2.2.2.2.2.2.2.2.2.2.2.2.1, a.2.2.2.2.2.2.2.2.2.2.2.2.2.2.2.2.2.2.2.1)).isSome then bif (F91 (a.2.2.2.2.2.2.2.1, a.2.2.2.2.2.2.2.2.1, a.2.2.2.2.2.2.2.2.2.1, a.2.2.2.2.2.2.2.2.2.2.1, a.2.2.2.2.2.2.2.2.2.2.2.1, a.2.2.2.2.2.2.2.2.2.2.2.2.1, a.2.2.2.2.2.2.2.2.2.2.2.2.2.1, a.2.2.2.2.2.2.2.2.2.2.2.2.2.2.1, a.2.2.2.2.2.2.2.2.2.2.2.2.2.2.2.1, a.2.2.2.2.2.2.2.2.2.2.2.2.2.2.2.2.1, a.2.2.2.2.2.2.2.2.2.2.2.2.2.2.2.2.2.1, a.2.2.2.2.2.2.2.2.2.2.2.2.2.2.2.2.2.2.1, a.2.2.2.2.2.2.2.2.2.2.2.2.2.2.2.2.2.2.2.1)).getD (Int.ofNat 0) != 0 then k (240) else bif a.2.2.2.2.2.2.2.1 != 1 then k (240) else bif !a.2.2.2.2.2.2.2.2.2.2.2.2.2.2.2.2.2.1 then k (240) else bif a.2.2.2.2.2.2.2.2.1 != a.1 then k (240) else bif a.2.2.2.2.2.2.2.2.2.1 != a.2.1 then k (240) else bif a.2.2.2.2.2.2.2.2.2.2.2.2.2.1 != ((List.length a.2.2.1) : Int) then k (240) else bif decide (0 ≤ a.2.2.2.2.2.2.2.2.2.2.2.2.1) then bif decide (Int.toNat a.2.2.2.2.2.2.2.2.2.2.2.2.1 ≤ List.length a.2.2.1) then bif decide ((((List.length a.2.2.2.2.2.2.2.2.2.2.2.2.2.2.2.2.2.2.1) : Int)).toNat ≤ (List.drop (Int.toNat a.2.2.2.2.2.2.2.2.2.2.2.2.1) (List.take (List.length a.2.2.1) a.2.2.1)).length) then bif decide (List.length a.2.2.2.2.2.2.2.2.2.2.2.2.2.2.2.2.2.2.1 < 1099511627776) then bif !eqI a.2.2.2.2.2.2.2.2.2.2.2.2.2.2.2.2.2.2.1 (List.drop 0 (List.take (((List.length a.2.2.2.2.2.2.2.2.2.2.2.2.2.2.2.2.2.2.1) : Int)).toNat (List.drop (Int.toNat a.2.2.2.2.2.2.2.2.2.2.2.2.1) (List.take (List.length a.2.2.1) a.2.2.1)))) then k (240) else bif !inI a.2.2.2.2.2.2.2.2.2.2.2.2.2.2.2.2.2.2.2.2.1 0 1114112 then k (240) else bif !inI a.2.2.2.2.2.2.2.2.2.2.2.2.2.2.2.2.2.2.2.2.2.1 0 a.2.2.2.2.1 then k (240) else bif decide (((List.length a.2.2.2.2.2.2.2.2.2.2.2.2.2.2.2.2.2.2.2.2.2.2.1) : Int) > 32) then k (240) else bif decide (List.length a.2.2.2.2.2.2.2.2.2.2.2.2.2.2.2.2.2.2.2.2.2.2.1 < 1099511627776) then bif has a.2.2.2.2.2.2.2.2.2.2.2.2.2.2.2.2.2.2.2.2.2.2.1 0 then k (240) else bif !inI a.2.2.2.2.2.2.2.2.2.2.2.2.2.2.2.2.2.2.2.2.2.2.2 0 255 then k (240) else k (0) else none else none else none else none else none else none else none
theorem nat27 {X : Type} (a : SndT) (k : Int → Option X) : f27 a k = (f27 a some).bind k := by
  simp only [f27, bif_bind, Option.bind_some, Option.bind_none]
def F27 (a : SndT) : Option Int := f27 a some
noncomputable def E27 : Env := specEnv (tyAt tab) [sr82, sr89, sr90, sr91, sr92, sr93] (fun _ _ => none)
theorem E27_ok : EnvAll Try.prog E27 := specEnv_ok tOk (by kernel_rfl)
theorem ev27 (a : SndT) : evFn (R := TV × List Obj) E27 (fun R => callAt (R := R) E27 0) 27 Try.f27 [argT true ti57.lv a] [] (fun v o => some (v, o)) = f27 a fun v => some (j64 v, []) := by kernel_rfl
noncomputable def con27 : Con := Con.opt (dec1 true ti57.lv) F27 j64
theorem okc27 : ConOK Try.prog 27 con27 := con_opt E27_ok Try.func27 (by kernel_rfl) (by kernel_rfl) (fun c _ => pieces_none (fun _ => rfl) c) fun args a h => by
  rw [dec1_eq h]
  exact (ev27 a).trans (nat27 a _)
noncomputable def sr27 : SemRow Try.prog := ⟨27, Try.f27, ⟨Try.func27, by kernel_rfl⟩, con27, okc27, Con.part_natural _ _ _⟩
end Go.Te
set_option linter.unusedVariables false
set_option linter.unusedSimpArgs false
set_option maxRecDepth 100000
namespace Go.Te
open Go.RowKit Go.Proofs

/-! ### Functions walked into, beside contracts; arguments as they are -/
def Env.withPieces (E : Env) (piece : Nat → Nat → Option Piece) : Env := { E with piece := piece }
noncomputable def walkEnv {P : Program} (T : Nat → Option TI) (rows : List (SemRow P)) (walks : List (Nat × Func)) (hand : Nat → Bool) (piece : Nat → Nat → Option Piece) : Env where
  T := T
  fns := fun f => match lookF walks f with
    | some fn => some fn
    | none => (rowAt rows f).map (·.fn)
  sem := fun f => (rowAt rows f).map (·.con)
  byHand := hand
  leaks := fun _ => false
  keeps := fun _ => false
  piece := piece
theorem walkEnv_ok {P : Program} {T : Nat → Option TI} {rows : List (SemRow P)} {walks : List (Nat × Func)} {hand : Nat → Bool} {piece : Nat → Nat → Option Piece} (hT : TOk P T) (hmix : P.follows .mixedOrders = true)
    (hw : ∀ p ∈ walks, (P.funcs[p.1]? = some p.2 ∧ (p.2.name == "runtime.NumGoroutine") = false) ∧ ∀ c, p.2.body = some c → PiecesOK P (walkEnv T rows walks hand piece) none p.1 p.2.ntmps c) : EnvAll P (walkEnv T rows walks hand piece) :=
  { T := hT, mixed := hmix,
    sem := fun f c h => by
      obtain ⟨r, hr, rfl⟩ := Option.map_eq_some_iff.1 h
      rw [← rowAt_f rows f r hr]; exact r.ok
    natural := fun f c h => by
      obtain ⟨r, hr, rfl⟩ := Option.map_eq_some_iff.1 h
      exact r.natural
    fns := fun f fn h => by
      simp only [walkEnv] at h
      cases hl : lookF walks f with
      | some fn' =>
        rw [hl] at h
        cases h
        exact (hw _ (lookF_mem walks f fn hl)).1
      | none =>
        rw [hl] at h
        obtain ⟨r, hr, rfl⟩ := Option.map_eq_some_iff.1 h
        rw [← rowAt_f rows f r hr]; exact r.hfn
    pieces := fun f fn c h1 h2 h3 => by
      simp only [walkEnv] at h1 h2
      cases hl : lookF walks f with
      | some fn' =>
        rw [hl] at h1
        cases h1
        exact (hw _ (lookF_mem walks f fn hl)).2 c h3
      | none =>
        rw [hl] at h1
        obtain ⟨r, hr, rfl⟩ := Option.map_eq_some_iff.1 h1
        rw [hr] at h2
        cases h2 }

/-! sender.gaps -/
noncomputable def con86 : Con := Con.all (dec1 true ti57.lv) fun a => .fn 130 [.dptr ti57.lv a 0]
theorem okc86 : ConOK Try.prog 86 con86 := con_all SB_ok.toEnvOK (callAt_ok SB_ok 0) Try.func86 (by kernel_rfl) (by kernel_rfl) (fun c _ => pieces_none (fun _ => rfl) c) fun args a h => by
  rw [dec1_eq h]
  kernel_rfl
noncomputable def sr86 : SemRow Try.prog := ⟨86, Try.f86, ⟨Try.func86, by kernel_rfl⟩, con86, okc86, Con.all_natural _ _⟩

/-! slices.AppendSeq -/
def rangeAt (c : Option Code) (k : Nat) : Code × Code := match lookN (nodes (nbody c)) k with
  | some (.range _ _ a b) => (a, b)
  | _ => (.skip, .skip)
theorem nodes138 : nodes (nbody Try.f138.body) = [(6, .range 6 #[7] (rangeAt Try.f138.body 6).1 (rangeAt Try.f138.body 6).2)] := by kernel_rfl
def xs1 (c : Int × Int) : List TV := [.agg [j64 c.1, j64 c.2]]
theorem round138a (c : Int × Int) (caps : List TV) : evRound SB sb 138 13 1 [7] (rangeAt Try.f138.body 6).1 (rangeAt Try.f138.body 6).2 [2, 5] [2, 6] [.ptr 0 0, .fn 130 caps] (xs1 c) [.box [.nil]] = some (.normal, [.box [.arrF 1 2], .arr 80 Cl [c]]) := by kernel_rfl
theorem round138b (c : Int × Int) (cs : List (Int × Int)) (caps : List TV) : evRound SB sb 138 13 1 [7] (rangeAt Try.f138.body 6).1 (rangeAt Try.f138.body 6).2 [2, 5] [2, 6] [.ptr 0 0, .fn 130 caps] (xs1 c) [.box [.arrF 1 2], .arr 80 Cl cs] = bif decide (cs.length + 1 < 1099511627776 / (16 + 1)) then some (.normal, [.box [.arrF 1 2], .arr 80 Cl (cs ++ [c])]) else none := by kernel_rfl

def N17 : Nat := 1099511627776 / (16 + 1)
theorem rounds138 (caps : List TV) : ∀ (l cs : List (Int × Int)), (cs ++ l).length < 1099511627776 / (16 + 1) →
    evRounds SB sb 138 13 1 [7] (rangeAt Try.f138.body 6).1 (rangeAt Try.f138.body 6).2 [2, 5] [2, 6] [.ptr 0 0, .fn 130 caps] (l.map xs1) [.box [.arrF 1 2], .arr 80 Cl cs] = some (.normal, [.box [.arrF 1 2], .arr 80 Cl (cs ++ l)])
  | [], cs, _ => by rw [List.append_nil]; rfl
  | c :: l, cs, h => by
    simp only [List.map_cons, evRounds]
    rw [round138b]
    have h1 : decide (cs.length + 1 < 1099511627776 / (16 + 1)) = true := by
      simp only [List.length_append, List.length_cons, decide_eq_true_eq] at h ⊢
      omega
    rw [h1]
    have e : cs ++ c :: l = (cs ++ [c]) ++ l := by simp
    rw [e] at h ⊢
    exact rounds138 caps l (cs ++ [c]) h
theorem rounds138' (caps : List TV) (l : List (Int × Int)) (h : l.length < 1099511627776 / (16 + 1)) :
    evRounds SB sb 138 13 1 [7] (rangeAt Try.f138.body 6).1 (rangeAt Try.f138.body 6).2 [2, 5] [2, 6] [.ptr 0 0, .fn 130 caps] (l.map xs1) [.box [.nil]] = some (.normal, bif l.isEmpty then [.box [.nil]] else [.box [.arrF 1 2], .arr 80 Cl l]) := by
  cases l with
  | nil => rfl
  | cons c l =>
    simp only [List.map_cons, evRounds]
    rw [round138a]
    exact rounds138 caps l [c] h
def collect : List (List TV) → Option (List (Int × Int))
  | [] => some []
  | x :: xs => match x with
    | [.agg [.d (.int .i64) a, .d (.int .i64) b]] => (collect xs).bind fun l => some ((a, b) :: l)
    | _ => none
theorem collect_eq : ∀ (xs : List (List TV)) (l : List (Int × Int)), collect xs = some l → xs = l.map xs1
  | [], l, h => by cases h; rfl
  | x :: xs, l, h => by
    simp only [collect] at h
    split at h
    · obtain ⟨l', h1, h2⟩ := Option.bind_eq_some_iff.1 h
      cases h2
      rw [collect_eq xs l' h1]
      rfl
    · cases h
theorem gapsIt_pure {caps : List TV} {xs : List (List TV)} (h : gapsIt caps = some xs) : pureTs caps = true := by
  unfold gapsIt at h
  split at h
  · rfl
  · cases h
noncomputable def run138 (vals : List TV) (objs : List Obj) : Option (List (Int × Int)) :=
  match vals, objs with
  | [.ptr i o, .fn g caps], [.box [.nil]] => bif Nat.beq i 0 && (Nat.beq o 0 && Nat.beq g 130) then (gapsIt caps).bind fun xs => (collect xs).bind fun l => bif decide (l.length < 1099511627776 / (16 + 1)) then some l else none else none
  | _, _ => none
noncomputable def piece138 : Piece where
  ins := [2, 6]
  outs := fun e => match e with | .normal => [2] | _ => []
  run := fun _ _ vals objs K => (run138 vals objs).bind fun l => bif l.isEmpty then K .normal [.ptr 0 0] [.box [.nil]] else K .normal [.ptr 0 0] [.box [.arrF 1 2], .arr 80 Cl l]
theorem pok138 : PieceOK Try.prog none 13 (.rangeFunc (.tmp 6) #[7] (rangeAt Try.f138.body 6).1 (rangeAt Try.f138.body 6).2) piece138 := by
  refine piece_range SB_ok.toEnvOK (callAt_ok SB_ok 0) (fid := 138) (mid := [2, 5]) (fun l => pieces_none (fun _ => rfl) _) (fun l => pieces_none (fun _ => rfl) _) iter130 fun R vals objs K r np hr => ?_
  have hrun : (run138 vals objs).bind (fun l => bif l.isEmpty then K .normal [.ptr 0 0] [.box [.nil]] else K .normal [.ptr 0 0] [.box [.arrF 1 2], .arr 80 Cl l]) = some r := hr
  obtain ⟨l, hl, hK0⟩ := Option.bind_eq_some_iff.1 hrun
  have hK : K .normal [.ptr 0 0] (bif l.isEmpty then [.box [.nil]] else [.box [.arrF 1 2], .arr 80 Cl l]) = some r := by
    revert hK0
    cases l.isEmpty <;> exact id
  clear hK0
  clear hr hrun
  unfold run138 at hl
  split at hl
  · rename_i i o g caps
    cases hb : Nat.beq i 0 && (Nat.beq o 0 && Nat.beq g 130) with
    | false => rw [hb] at hl; cases hl
    | true =>
      rw [hb] at hl
      simp only [Bool.and_eq_true] at hb
      obtain ⟨b1, b2, b3⟩ := hb
      cases Nat.eq_of_beq_eq_true b1
      cases Nat.eq_of_beq_eq_true b2
      cases Nat.eq_of_beq_eq_true b3
      simp only [cond_true] at hl
      obtain ⟨xs, hx, hl⟩ := Option.bind_eq_some_iff.1 hl
      obtain ⟨l', hc, hl⟩ := Option.bind_eq_some_iff.1 hl
      cases hd : decide (l'.length < 1099511627776 / (16 + 1)) with
      | false => rw [hd] at hl; cases hl
      | true =>
        rw [hd] at hl
        cases hl
        have hxs := collect_eq xs l hc
        subst hxs
        refine ⟨caps, l.map xs1, .normal, _, rfl, gapsIt_pure hx, hx, fun x hx => ?_, rfl, rounds138' caps l (of_decide_eq_true hd), hK⟩
        obtain ⟨c, _, rfl⟩ := List.mem_map.1 hx
        exact ⟨rfl, rfl⟩
  · cases hl
noncomputable def E104 : Env := walkEnv (P := Try.prog) (tyAt tab) [] [(138, Try.f138)] (fun f => Nat.beq f 138) (fun f k => bif Nat.beq f 138 && Nat.beq k 6 then some piece138 else none)
theorem E104_ok : EnvAll Try.prog E104 := walkEnv_ok tOk (by kernel_rfl) fun p hp => by
  simp only [List.mem_singleton] at hp
  subst hp
  refine ⟨⟨Try.func138, by kernel_rfl⟩, fun c hc => ?_⟩
  have hn : nodes c = [(6, .range 6 #[7] (rangeAt Try.f138.body 6).1 (rangeAt Try.f138.body 6).2)] := by rw [← nodes138]; rw [hc]; rfl
  have hr : rangeFlat false (nbody Try.f138.body) = true := by kernel_rfl
  rw [hc] at hr
  refine pieces_tab (fun c' => ?_) c hr fun x hx p hp => ?_
  · have h2 := condKey_odd c'
    show (bif Nat.beq 138 138 && Nat.beq (condKey c') 6 then some piece138 else none) = none
    cases hb : Nat.beq (condKey c') 6 with
    | true => rw [Nat.eq_of_beq_eq_true hb] at h2; cases h2
    | false => rfl
  · rw [hn] at hx
    simp only [List.mem_singleton] at hx
    subst hx
    have hp : some piece138 = some p := hp
    cases hp
    exact pok138
end Go.Te
set_option linter.unusedVariables false
set_option linter.unusedSimpArgs false
set_option maxRecDepth 100000
namespace Go.Te
open Go.RowKit Go.Proofs

/-- With callees walked into. -/
theorem con_optD {P : Program} {E : Env} (hE : EnvAll P E) (d : Nat) {f : Nat} {fn : Func} (hf : P.funcs[f]? = some fn) (hname : (fn.name == "runtime.NumGoroutine") = false) (hbody : fn.body.isNone = false) (hp : ∀ c, fn.body = some c → PiecesOK P E none f fn.ntmps c)
    {A B : Type} [Inhabited B] {dec : List TV → Option A} {F : A → Option B} {tv : B → TV} (h : ∀ args a, dec args = some a → evFn (R := TV × List Obj) E (fun R => callAt (R := R) E d) f fn args [] (fun v o => some (v, o)) = (F a).bind fun b => some (tv b, [])) : ConOK P f (Con.opt dec F tv) := by
  refine con_fn hE.toEnvOK (callAt_ok hE d) hf hname hbody hp fun R args objs K r hr => ?_
  simp only [Con.opt, Con.part] at hr
  cases objs with
  | cons o os => cases hr
  | nil =>
    obtain ⟨a, ha, hr⟩ := Option.bind_eq_some_iff.1 hr
    cases hok : (F a).isSome with
    | false => rw [hok] at hr; cases hr
    | true =>
      rw [hok] at hr
      obtain ⟨b, hb⟩ := Option.isSome_iff_exists.1 hok
      rw [hb] at hr
      refine ⟨TV × List Obj, fun v o => some (v, o), (tv b, []), ?_, fun v o hvo => ?_⟩
      · rw [h args a ha, hb]; rfl
      · cases hvo; exact hr

/-! slices.Collect of the gaps -/
def dec104 (args : List TV) : Option Snd :=
  match args with
  | [.fn g [.dptr ls x j]] => bif Nat.beq g 130 && Nat.beq j 0 then (rowCast ls ti57.lv [x]).bind fun l => l.head? else none
  | _ => none
theorem dec104_eq {args : List TV} {a : Snd} (h : dec104 args = some a) : args = [.fn 130 [.dptr ti57.lv a 0]] := by
  unfold dec104 at h
  split at h
  · rename_i g ls x j
    cases hb : Nat.beq g 130 && Nat.beq j 0 with
    | false => rw [hb] at h; cases h
    | true =>
      rw [hb] at h
      simp only [Bool.and_eq_true] at hb
      obtain ⟨b1, b2⟩ := hb
      cases Nat.eq_of_beq_eq_true b1
      cases Nat.eq_of_beq_eq_true b2
      obtain ⟨l, hl, h⟩ := Option.bind_eq_some_iff.1 h
      obtain ⟨e1, q1⟩ := rowCast_ok hl
      subst e1
      have q1 : [x] = l := q1
      subst q1
      injection h with h
      subst h
      rfl
  · cases h
/-- The gaps, as a list. -/
def gapsL (n : Int) : Int → List (Int × Int) → List (Int × Int)
  | a, [] => bif decide (a < n) then [(a, IntKind.i64.wrap (n - a))] else []
  | a, c :: cs => bif decide (a < c.1) then (a, IntKind.i64.wrap (c.1 - a)) :: gapsL n (IntKind.i64.wrap (c.1 + c.2)) cs else gapsL n (IntKind.i64.wrap (c.1 + c.2)) cs
theorem collect_gaps (n : Int) : ∀ (cs : List (Int × Int)) (a : Int), collect (gapsGo n a cs) = some (gapsL n a cs)
  | [], a => by
    simp only [gapsGo, gapsL]
    cases decide (a < n) <;> rfl
  | c :: cs, a => by
    simp only [gapsGo, gapsL]
    cases decide (a < c.1) with
    | false => exact collect_gaps n cs _
    | true =>
      simp only [cond_true, collect]
      rw [collect_gaps n cs]
      rfl
def f104 (B : List Int) (G : List (Int × Int)) : Option (List (Int × Int)) := bif decide (G.length < 1099511627776) then (bif decide ((gapsL (B.length : Int) 0 G).length < 1099511627776 / (16 + 1)) then some (gapsL (B.length : Int) 0 G) else none) else none
def F104 (a : Snd) : Option (List (Int × Int)) := f104 (sndB a) (sndG a)
theorem ev104 (a : Snd) : evFn (R := TV × List Obj) E104 (fun R => callAt (R := R) E104 1) 104 Try.f104 [.fn 130 [.dptr ti57.lv a 0]] [] (fun v o => some (v, o)) =
    (run138 [.ptr 0 0, .fn 130 [.dptr ti57.lv a 0]] [.box [.nil]]).bind fun l => bif l.isEmpty then some (.d (.sl Cl) [], []) else some (.d (.sl Cl) l, []) := by kernel_rfl
theorem run138_eq (a : Snd) : run138 [.ptr 0 0, .fn 130 [.dptr ti57.lv a 0]] [.box [.nil]] = (bif decide ((sndG a).length < 1099511627776) then some (gapsGo ((sndB a).length : Int) 0 (sndG a)) else none).bind fun xs => (collect xs).bind fun l => bif decide (l.length < 1099511627776 / (16 + 1)) then some l else none := by kernel_rfl
theorem pl104 (B : List Int) (G : List (Int × Int)) : ((bif decide (G.length < 1099511627776) then some (gapsGo (B.length : Int) 0 G) else none).bind fun xs => (collect xs).bind fun l => bif decide (l.length < 1099511627776 / (16 + 1)) then some l else none) = f104 B G := by
  unfold f104
  cases decide (G.length < 1099511627776) with
  | false => rfl
  | true =>
    simp only [cond_true, Option.bind_some]
    rw [collect_gaps]
    rfl
theorem isE (l : List (Int × Int)) : (bif l.isEmpty then some (.d (.sl Cl) [], []) else some (.d (.sl Cl) l, []) : Option (TV × List Obj)) = some (.d (.sl Cl) l, []) := by cases l <;> rfl
noncomputable def con104 : Con := Con.opt dec104 F104 (fun l => .d (.sl Cl) l)
theorem okc104 : ConOK Try.prog 104 con104 := con_optD E104_ok 1 Try.func104 (by kernel_rfl) (by kernel_rfl) (fun c hc => by
  refine pieces_tab (fun c' => rfl) c (by cases hc; kernel_rfl) fun x hx p hp => ?_
  have hp : none = some p := hp
  cases hp) fun args a h => by
  rw [dec104_eq h]
  refine (ev104 a).trans ?_
  rw [run138_eq, pl104]
  unfold F104
  simp only [isE]
noncomputable def sr104 : SemRow Try.prog := ⟨104, Try.f104, ⟨Try.func104, by kernel_rfl⟩, con104, okc104, Con.part_natural _ _ _⟩

/-! sender.Gaps -/
noncomputable def E36 : Env := specEnv (tyAt tab) [sr27, sr86, sr104] (fun _ _ => none)
theorem E36_ok : EnvAll Try.prog E36 := specEnv_ok tOk (by kernel_rfl)
def F36 (a : Snd) : Option (List (Int × Int)) := bif (F27 a).isSome then (bif (F27 a).getD (Int.ofNat 0) != 0 then some [] else F104 a) else none
theorem ev36 (a : Snd) : evFn (R := TV × List Obj) E36 (fun R => callAt (R := R) E36 0) 36 Try.f36 [argT true ti57.lv a] [] (fun v o => some (v, o)) =
    bif (F27 a).isSome then (bif (F27 a).getD (Int.ofNat 0) != 0 then some (.d (.sl Cl) [], []) else bif (F104 a).isSome then some (.d (.sl Cl) ((F104 a).getD default), []) else none) else none := by kernel_rfl
theorem pl36 (o : Option Int) (l : Option (List (Int × Int))) : (bif o.isSome then (bif o.getD (Int.ofNat 0) != 0 then some (.d (.sl Cl) [], []) else bif l.isSome then some (.d (.sl Cl) (l.getD default), []) else none) else none : Option (TV × List Obj)) = (bif o.isSome then (bif o.getD (Int.ofNat 0) != 0 then some [] else l) else none).bind fun l => some (.d (.sl Cl) l, []) := by
  cases o with
  | none => rfl
  | some v =>
    simp only [Option.isSome, Option.getD, cond_true]
    cases v != 0 with
    | true => rfl
    | false => cases l <;> rfl
noncomputable def con36 : Con := Con.opt (dec1 true ti57.lv) F36 (fun l => .d (.sl Cl) l)
theorem okc36 : ConOK Try.prog 36 con36 := con_opt E36_ok Try.func36 (by kernel_rfl) (by kernel_rfl) (fun c _ => pieces_none (fun _ => rfl) c) fun args a h => by
  rw [dec1_eq h]
  exact (ev36 a).trans (pl36 _ _)
noncomputable def sr36 : SemRow Try.prog := ⟨36, Try.f36, ⟨Try.func36, by kernel_rfl⟩, con36, okc36, Con.part_natural _ _ _⟩
end Go.Te
