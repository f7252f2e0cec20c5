/-
  heliographlaw14.SenderGaps: what is claimed and what is not have, together, each byte once.
  No conditions: every input that the statement lets in. Part It: own work.
-/
import Derived.Test.YtfjklknekiogcaaTab
import Derived.Test.YtfjklknekiogcaaTeFuel
import Derived.IntWalk
set_option linter.unusedVariables false
set_option maxRecDepth 100000
namespace Go.Te
open Go.RowKit Go.Proofs

/-! Parts of a body. -/
def sL : Code → Code
  | .seq a _ => a
  | c => c
def sR : Code → Code
  | .seq _ b => b
  | c => c
def bC : Code → Code
  | .block _ c => c
  | .loop c => c
  | c => c
def cT : Code → Code
  | .cond _ a _ => a
  | c => c
def cF : Code → Code
  | .cond _ _ a => a
  | c => c
def rO : Code → Array Oper
  | .region _ o _ => o
  | _ => #[]
def nb (c : Option Code) : Code := c.getD .skip

/-! The iterator of the gaps. -/
noncomputable def it0 : Code := nb Try.f130.body
noncomputable def itL : Code := bC (bC (sR (sL (sR it0))))
noncomputable def itB : Code := bC (sL (sR (sR itL)))
noncomputable def o0 := rO (sL it0)
noncomputable def o1 := rO (sL (sL (sR it0)))
noncomputable def o2 := rO (sL itL)
noncomputable def o3 := rO (sL itB)
noncomputable def o4 := rO (sL (sL (sR itB)))
noncomputable def o5 := rO (sR (sR itB))
noncomputable def o6 := rO (sR (sR (sR itL)))
noncomputable def o7 := rO (sL (sR (sR it0)))
noncomputable def o8 := rO (sL (sR (sR (sR it0))))
noncomputable def o9 := rO (cT (sR (sR (sR (sR it0)))))
theorem it_shape : Try.f130.body = some (.seq (.region 0 o0 false) (.seq (.seq (.region 1 o1 false) (.block 0 (.loop (.seq (.region 2 o2 false) (.seq (.cond (.tmp 11) .skip (.exit 0)) (.seq (.block 1 (.seq (.region 3 o3 false) (.seq (.seq (.region 4 o4 false) (.cond (.tmp 28) .ret .skip)) (.region 5 o5 false)))) (.region 6 o6 false)))))))
    (.seq (.region 7 o7 false) (.seq (.region 8 o8 false) (.cond (.tmp 41) (.region 9 o9 false) .skip))))) := by kernel_rfl

noncomputable def I0 : Env := baseEnv (tyAt tab) fnsSl (fun _ => none) (fun _ => false) (fun _ => false)
theorem I0_ok : EnvDeep Try.prog I0 := baseEnv_ok tOk (by kernel_rfl) fnsOKSl (fun _ _ h => by cases h)
noncomputable abbrev ic : (R : Type) → Nat → List TV → List Obj → (TV → List Obj → Option R) → Option R := fun R => callAt (R := R) I0 0
/-- A region's end, in these slots. -/
def endAt (live : List Nat) (s : St) : Option (List TV × List Obj) := (cutSt live s).run s.objs [] fun _ v => some v
noncomputable def rgn (ops : Array Oper) (n0 : Nat) (l : List Oper) (s : St) (live : List Nat) : Option (List TV × List Obj) :=
  evOps I0 (ic _) ops s.nxt n0 l { s with nxt := s.nxt + 32 * (n0 + l.length) } (endAt live)

/-- A slice's cell as a list of these leaves. -/
def slOf (es : List Leaf) (a : LV) : Option (List (Row es)) :=
  match a with
  | ⟨.sl [], []⟩ => some []
  | ⟨.sl es', xs⟩ => rowCast es' es xs
  | _ => none
theorem slOf_rel {w : World} {Z : Nat → Prop} {es : List Leaf} {a : LV} {ys : List (Row es)} {v : Value} (h : slOf es a = some ys) (hr : RelL w Z a.l a.x v) : RelL w Z (.sl es) ys v ∧ ∃ eb xb, a = ⟨.sl eb, xb⟩ ∧ (lst (es := eb) xb).length = ys.length := by
  unfold slOf at h
  split at h
  · cases h
    simp only [RelL] at hr ⊢
    obtain ⟨ad, cap, h1, h2, _⟩ := hr
    exact ⟨⟨ad, cap, h1, h2, fun h => absurd rfl h⟩, [], [], rfl, rfl⟩
  · rename_i es' xs _
    obtain ⟨he, hq⟩ := rowCast_ok h
    subst he
    have hq : xs = ys := hq
    subst hq
    exact ⟨hr, _, _, rfl, rfl⟩
  · cases h

/-- The gaps of rows, as they are told. -/
def gapsGo (n : Int) : Int → List (Int × Int) → List (List TV)
  | a, [] => bif decide (a < n) then [[.agg [.d (.int .i64) a, .d (.int .i64) (IntKind.i64.wrap (n - a))]]] else []
  | a, c :: cs => bif decide (a < c.1) then [.agg [.d (.int .i64) a, .d (.int .i64) (IntKind.i64.wrap (c.1 - a))]] :: gapsGo n (IntKind.i64.wrap (c.1 + c.2)) cs else gapsGo n (IntKind.i64.wrap (c.1 + c.2)) cs
noncomputable def gapsIt (caps : List TV) : Option (List (List TV)) :=
  match caps with
  | [.dptr (_ :: _ :: lb :: _ :: _ :: _ :: lg :: _ :: _) x j] => bif Nat.beq j 0 then (slOf [.int .u8] ⟨lb, x.2.2.1⟩).bind fun blk => (slOf [.int .i64, .int .i64] ⟨lg, x.2.2.2.2.2.2.1⟩).bind fun got =>
      bif decide (got.length < 1099511627776) then some (gapsGo ((blk.length : Nat) : Int) 0 got) else none
    else none
  | _ => none

/-- Operations of a region, from a state to another. -/
theorem ops_seg {ds : List Deferred} {ρ : Option Nat} {nf : Nat} {Z : Nat → Prop} {w : World} {a : Act} {β : Beta} {U : Nat → Option Nat} {s : St} {ops : Array Oper} {i : Nat} {l : List Oper} {live : List Nat} {v : List TV × List Obj} {Q : Exit → Act → World → Prop}
    (h : rgn ops i l s live = some v) (hR : Rel ds w a Z β U s)
    (hQ : ∀ w' a' β' U', Rel ds w' a' Z β' U' (laySt live v.1 v.2 s.nt s.np) → Far s.np w β U s.objs w' β' U' (objsOf v.2) → Q .normal a' w') : wpListIn (FW ρ) nf Try.prog ops Q l a w := by
  refine evOps_ok (E := I0) tOk (callAt_ok I0_ok.all 0 _) ops s.nxt Q v l i _ _ w a β U h (Mid.again (s := s) (lim := fun id => id < s.nxt + 32 * i) (hR.mid.mono fun id hid => by omega) rfl rfl (.inr ⟨rfl, rfl⟩)) fun s' w' a' β' U' q1 q2 q3 q4 => ?_
  obtain ⟨rd, v', hv, q1⟩ := Prog.runs_of_run _ _ _ _ _ q1
  cases q1
  have q5 : Rel ds w' a' Z β' U' s' := Mid.rel (q2.mono fun id hid => by rw [q4.nxt]; exact hid)
  obtain ⟨β2, U2, c1, c2⟩ := cut_state q5 hv
  have e1 : s'.nt = s.nt := q4.nt
  have e2 : s'.np = s.np := q4.np
  rw [e1, e2] at c1
  rw [e2] at c2
  exact hQ w' a' β2 U2 c1 (q3.trans c2)
theorem region_seg {ds : List Deferred} {ρ : Option Nat} {nf id : Nat} {Z : Nat → Prop} {w : World} {a : Act} {β : Beta} {U : Nat → Option Nat} {s : St} {ops : Array Oper} {live : List Nat} {v : List TV × List Obj} {Q : Exit → Act → World → Prop}
    (h : rgn ops 0 ops.toList s live = some v) (hR : Rel ds w a Z β U s)
    (hQ : ∀ w' a' β' U', Rel ds w' a' Z β' U' (laySt live v.1 v.2 s.nt s.np) → Far s.np w β U s.objs w' β' U' (objsOf v.2) → Q .normal a' w') : (Code.region id ops false).wpIn (FW ρ) nf Try.prog Q a w :=
  wpIn_region_list (ops_seg h hR hQ)
theorem wpIn_mono_Q {F : Fence} {n : Nat} {P : Program} {o : Oper} {a : Act} {w : World} {K : Act → World → Prop} {Q Q' : Exit → Act → World → Prop} (h1 : ∀ c a w, Q (.panic c) a w → Q' (.panic c) a w) (h2 : ∀ a w, Q .outgrown a w → Q' .outgrown a w)
    (hh : o.wpIn F n P a w K Q) : o.wpIn F n P a w K Q' := by
  unfold Oper.wpIn at *
  refine ⟨hh.1, ?_⟩
  have hh := hh.2
  generalize (o.semAt F.round a.eval).run P w = r at *
  have hlet : LetsOut Q → LetsOut Q' := fun ⟨a, w, h⟩ => ⟨a, w, h2 a w h⟩
  cases r with
  | ok x w' =>
    cases x <;> simp only [Oper.uponIn] at hh ⊢ <;>
      first
        | exact hh
        | exact ⟨hh.1, CallsIn.mono hh.2 (fun e w'' he => by cases e <;> first | exact he | exact h1 _ _ _ he | exact hlet he)⟩
        | exact ⟨hh.1, RoundIn.mono hh.2 (fun e w'' he => by cases e <;> first | exact he | exact h1 _ _ _ he | exact hlet he)⟩
  | halt x w' => cases x <;> simp only [Oper.uponIn] at hh ⊢ <;> first | exact hh | exact h1 _ _ _ hh
theorem wpListIn_append {F : Fence} {n : Nat} {P : Program} {ops : Array Oper} {Q : Exit → Act → World → Prop} : ∀ (l m : List Oper) (a : Act) (w : World),
    wpListIn F n P ops (fun e a w => match e with | .normal => wpListIn F n P ops Q m a w | e => Q e a w) l a w → wpListIn F n P ops Q (l ++ m) a w
  | [], m, a, w, h => h
  | o :: l, m, a, w, h => by
    simp only [wpListIn, List.cons_append] at h ⊢
    split
    · rename_i hw
      rw [if_pos hw] at h
      exact Oper.wpIn_mono (fun a w h => wpListIn_append l m a w h) (wpIn_mono_Q (fun _ _ _ h => h) (fun _ _ h => h) h)
    · rename_i hw
      rw [if_neg hw] at h
      exact ⟨h.1, wpListIn_append l m _ w h.2⟩
end Go.Te
set_option linter.unusedVariables false
set_option linter.unusedSimpArgs false
set_option maxRecDepth 100000
namespace Go.Te
open Go.RowKit Go.Proofs

def zs (B A : Nat → Prop) (Wm : World) (b : Nat) : Prop := b < Wm.heap.size ∧ ¬ B b ∧ ¬ A b

/-- A state of the iterator's, across a round. -/
theorem cross {ds : List Deferred} {B A : Nat → Prop} {Wm W1 W' : World} {a : Act} {β : Beta} {U : Nat → Option Nat} {s : St} (hR : Rel ds W1 a (zs B A Wm) β U s) (hk : Kept (fun b => B b ∨ since A Wm W1 b) W1 W') (hsz : Wm.heap.size ≤ W1.heap.size) :
    Rel ds W' a (zs B (since A Wm W1) W') β U s := by
  have step : WStep (zs B A Wm) W1 W' := by
    refine ⟨hk.os, hk.tape, hk.output, hk.size, fun b hb hn => hk.block b hb ?_, hk.shape, hk.frozen⟩
    by_cases hB : B b
    · exact .inl hB
    · by_cases hA : A b
      · exact .inr (.inl hA)
      · rcases Nat.lt_or_ge b Wm.heap.size with h | h
        · exact absurd ⟨h, hB, hA⟩ hn
        · exact .inr (.inr ⟨h, hb⟩)
  have hzs : ∀ b, b < W1.heap.size → zs B (since A Wm W1) W' b → zs B A Wm b := fun b hb ⟨h1, h2, h3⟩ =>
    ⟨by rcases Nat.lt_or_ge b Wm.heap.size with h | h
        · exact h
        · exact absurd (Or.inr ⟨h, hb⟩) h3, h2, fun q => h3 (.inl q)⟩
  have hz : ∀ b, b < W1.heap.size → zz s.objs β (zs B (since A Wm W1) W') b → zz s.objs β (zs B A Wm) b := fun b hb h => h.imp (hzs b hb) (fun q => q)
  refine ⟨fun t => RelT.step step (fun b _ q => .inl q) hz (fun _ _ => rfl) (fun _ _ q => q) _ _ (hR.slots t), ⟨fun id => ?_, hR.objs.inj, hR.objs.lim, fun b hb => hb.1, fun b hb hq => ?_⟩, hR.size, hR.defers, hR.nxt, hR.np⟩
  · cases ha : (s.objs id).alive with
    | false =>
      cases ho : s.objs id with
      | dead => trivial
      | _ => rw [ho] at ha; cases ha
    | true => exact RelObj.step step (fun b _ q => .inl q) hz (fun _ _ => rfl) (fun _ _ q => q) (hR.objs.alive_U ha) (fun b q hb hq => hR.objs.apart b hq ⟨id, q, ha, hb⟩) (hR.objs.obj id)
  · have hlt := own_lt hR.objs hq
    exact hR.objs.apart b (hzs b hlt hb) hq

/-- A call of yield. -/
theorem yield_op {P : Program} {tf ta : Nat} {dst : Option Nat} {ts : Array TypeId} {ty : TypeId} {pos : String} {after : Array Edge} {guard : Option (Nat × Bool)} {l nf : Nat} {a : Act} {v : Value} {W : World} {R : Ending → World → Prop} {next : Act → World → Prop} {Q : Exit → Act → World → Prop}
    (hf : a.tmps.getD tf undef = .func (.yield l) #[] #[]) (ha : a.tmps.getD ta undef = v) (hY : YieldAt (FW none) nf P l #[v] W R) (hn : ∀ e w', R e w' → ∃ u, e = .returned u ∧ next (a.put dst u) w') :
    Oper.wpIn (FW none) (nf + 1) P { dst := dst, op := Op.call { callee := .value (.tmp tf), args := #[.tmp ta], argTypes := ts }, type := ty, pos := pos, after := after, guard := guard } a W next Q := by
  obtain ⟨fn, tmps, assign, body, hy, hR⟩ := hY
  refine ⟨fun _ _ => trivial, ?_⟩
  have hf' : a.eval (.tmp tf) = .func (.yield l) #[] #[] := hf
  have ha' : a.eval (.tmp ta) = v := ha
  have hrun : (execOp a.eval { dst := dst, op := Op.call { callee := .value (.tmp tf), args := #[.tmp ta], argTypes := ts }, type := ty, pos := pos, after := after, guard := guard }).run P W = .ok (.round l fn tmps assign body) W := by
    simp only [execOp, resolve, hf', Deferred.ofValue, invoke]
    simp [ha', callFunc, hy]
  rw [semAt_FW (FW none).round a.eval _ (fun _ hc => by cases hc), hrun, Oper.uponIn_round]
  refine ⟨fun hc => (by cases hc), RoundIn.mono hR ?_⟩
  intro e w' he
  obtain ⟨u, rfl, hu⟩ := hn e w' he
  exact hu
end Go.Te
set_option linter.unusedVariables false
set_option linter.unusedSimpArgs false
set_option maxRecDepth 100000
namespace Go.Te
open Go.RowKit Go.Proofs

@[reducible] noncomputable def esG (l0 l1 l3 l4 l5 l7 : Leaf) (eb eg rest : List Leaf) : List Leaf := l0 :: l1 :: .sl eb :: l3 :: l4 :: l5 :: .sl eg :: l7 :: rest
abbrev Cl := [Leaf.int .i64, Leaf.int .i64]
abbrev i64 (n : Int) : TV := .d (.int .i64) n

section
variable (l0 l1 l3 l4 l5 l7 : Leaf) (eb eg rest : List Leaf) (x : Row (esG l0 l1 l3 l4 l5 l7 eb eg rest)) (y : Value) (p n a b : Int) (i : Nat) (q : Bool) (got : List (Int × Int)) (c : Int × Int)
theorem e0 : rgn o0 0 o0.toList (laySt [0, 1] [.raw y, .dptr (esG l0 l1 l3 l4 l5 l7 eb eg rest) x 0] [] 49 0) [0, 1, 3] = some ([.raw y, .dptr (esG l0 l1 l3 l4 l5 l7 eb eg rest) x 0, i64 0], []) := by kernel_rfl
theorem e1 : rgn o1 0 o1.toList (laySt [0, 1, 3] [.raw y, .dptr (esG l0 l1 l3 l4 l5 l7 eb eg rest) x 0, i64 p] [] 49 0) [0, 1, 3, 8, 9, 10] =
    some ([.raw y, .dptr (esG l0 l1 l3 l4 l5 l7 eb eg rest) x 0, i64 p, .d (.sl eg) x.2.2.2.2.2.2.1, i64 ((lst (es := eg) x.2.2.2.2.2.2.1).length : Int), i64 0], []) := by kernel_rfl
theorem e7 : rgn o7 0 o7.toList (laySt [0, 1, 3] [.raw y, .dptr (esG l0 l1 l3 l4 l5 l7 eb eg rest) x 0, i64 p] [] 49 0) [0, 3, 6] = some ([.raw y, i64 p, i64 ((lst (es := eb) x.2.2.1).length : Int)], []) := by kernel_rfl
theorem e8 : rgn o8 0 o8.toList (laySt [0, 3, 6] [.raw y, i64 p, i64 n] [] 49 0) [0, 3, 6, 41] = some ([.raw y, i64 p, i64 n, .d .bool (decide (p < n))], []) := by kernel_rfl
theorem e2 (d : TV) : rgn o2 0 o2.toList (laySt [0, 1, 3, 8, 9, 10] [.raw y, .dptr (esG l0 l1 l3 l4 l5 l7 eb eg rest) x 0, i64 p, .d (.sl Cl) got, i64 n, i64 i] [] 49 0) [0, 1, 3, 8, 9, 10, 11] = some ([.raw y, .dptr (esG l0 l1 l3 l4 l5 l7 eb eg rest) x 0, i64 p, .d (.sl Cl) got, i64 n, i64 i, .d .bool (decide ((i : Int) < n))], []) := by kernel_rfl
theorem e3 : rgn o3 0 o3.toList (laySt [0, 1, 3, 8, 9, 10] [.raw y, .dptr (esG l0 l1 l3 l4 l5 l7 eb eg rest) x 0, i64 p, .d (.sl Cl) got, i64 n, i64 i] [] 49 0) [0, 1, 3, 5, 8, 9, 10] =
    got[((i : Int)).toNat]?.bind fun c => some ([.raw y, .dptr (esG l0 l1 l3 l4 l5 l7 eb eg rest) x 0, i64 p, .ptr 0 0, .d (.sl Cl) got, i64 n, i64 i], [.box [i64 c.1, i64 c.2]]) := by kernel_rfl
theorem e4 : rgn o4 0 o4.toList (laySt [0, 1, 3, 5, 8, 9, 10] [.raw y, .dptr (esG l0 l1 l3 l4 l5 l7 eb eg rest) x 0, i64 p, .dptr Cl c 0, .d (.sl Cl) got, i64 n, i64 i] [] 49 0) [0, 1, 3, 5, 8, 9, 10, 28] =
    bif decide (c.1 > p) then none else some ([.raw y, .dptr (esG l0 l1 l3 l4 l5 l7 eb eg rest) x 0, i64 p, .dptr Cl c 0, .d (.sl Cl) got, i64 n, i64 i, .d .bool false], []) := by kernel_rfl
theorem e4a : rgn o4 0 (o4.toList.take 12) (laySt [0, 1, 3, 5, 8, 9, 10] [.raw y, .dptr (esG l0 l1 l3 l4 l5 l7 eb eg rest) x 0, i64 p, .dptr Cl c 0, .d (.sl Cl) got, i64 n, i64 i] [] 49 0) [0, 1, 3, 5, 8, 9, 10, 18, 19, 25] =
    bif decide (c.1 > p) then some ([.raw y, .dptr (esG l0 l1 l3 l4 l5 l7 eb eg rest) x 0, i64 p, .dptr Cl c 0, .d (.sl Cl) got, i64 n, i64 i, .d .bool true, .raw y, .agg [i64 p, i64 (IntKind.i64.wrap (c.1 - p))]], [])
    else some ([.raw y, .dptr (esG l0 l1 l3 l4 l5 l7 eb eg rest) x 0, i64 p, .dptr Cl c 0, .d (.sl Cl) got, i64 n, i64 i, .d .bool false, .dead, .dead], []) := by kernel_rfl
theorem e4b (u : TV) : rgn o4 13 (o4.toList.drop 13) ((laySt [0, 1, 3, 5, 8, 9, 10, 18, 19, 25] [.raw y, .dptr (esG l0 l1 l3 l4 l5 l7 eb eg rest) x 0, i64 p, .dptr Cl c 0, .d (.sl Cl) got, i64 n, i64 i, .d .bool true, .raw y, u] [] 49 0).put (some 26) (.d .bool true)) [0, 1, 3, 5, 8, 9, 10, 28] =
    some ([.raw y, .dptr (esG l0 l1 l3 l4 l5 l7 eb eg rest) x 0, i64 p, .dptr Cl c 0, .d (.sl Cl) got, i64 n, i64 i, .d .bool false], []) := by kernel_rfl
theorem e4c : rgn o4 13 (o4.toList.drop 13) (laySt [18, 26] [.d .bool true, .d .bool false] [] 49 0) [28] = some ([.d .bool true], []) := by kernel_rfl
theorem e5 : rgn o5 0 o5.toList (laySt [0, 1, 3, 5, 8, 9, 10, 28] [.raw y, .dptr (esG l0 l1 l3 l4 l5 l7 eb eg rest) x 0, i64 p, .dptr Cl c 0, .d (.sl Cl) got, i64 n, i64 i, .d .bool false] [] 49 0) [0, 1, 3, 8, 9, 10] =
    some ([.raw y, .dptr (esG l0 l1 l3 l4 l5 l7 eb eg rest) x 0, i64 (IntKind.i64.wrap (c.1 + c.2)), .d (.sl Cl) got, i64 n, i64 i], []) := by kernel_rfl
theorem e6 : rgn o6 0 o6.toList (laySt [0, 1, 3, 8, 9, 10] [.raw y, .dptr (esG l0 l1 l3 l4 l5 l7 eb eg rest) x 0, i64 p, .d (.sl Cl) got, i64 n, i64 i] [] 49 0) [0, 1, 3, 8, 9, 10] =
    some ([.raw y, .dptr (esG l0 l1 l3 l4 l5 l7 eb eg rest) x 0, i64 p, .d (.sl Cl) got, i64 n, i64 (IntKind.i64.wrap ((i : Int) + 1))], []) := by kernel_rfl
theorem e9a : rgn o9 0 (o9.toList.take 6) (laySt [0, 3, 6, 41] [.raw y, i64 p, i64 n, .d .bool true] [] 49 0) [42, 47] = some ([.raw y, .agg [i64 p, i64 (IntKind.i64.wrap (n - p))]], []) := by kernel_rfl
end
noncomputable def op4 : Oper := o4.toList[12]?.getD default
theorem op4_eq : op4 = { dst := some 26, op := Op.call { callee := .value (.tmp 19), args := #[.tmp 25], argTypes := #[80] }, type := op4.type, pos := op4.pos, after := op4.after, guard := some (4, true) } := by kernel_rfl
theorem o4_split : o4.toList = o4.toList.take 12 ++ (op4 :: o4.toList.drop 13) := by kernel_rfl
theorem o4_dst : (o4[4]?).bind (·.dst) = some 18 := by kernel_rfl
noncomputable def op9 : Oper := o9.toList[6]?.getD default
theorem op9_eq : op9 = { dst := some 48, op := Op.call { callee := .value (.tmp 42), args := #[.tmp 47], argTypes := #[80] }, type := op9.type, pos := op9.pos, after := op9.after, guard := none } := by kernel_rfl
theorem o9_split : o9.toList = o9.toList.take 6 ++ [op9] := by kernel_rfl
end Go.Te
set_option linter.unusedVariables false
set_option linter.unusedSimpArgs false
set_option maxRecDepth 100000
namespace Go.Te
open Go.RowKit Go.Proofs

theorem far_below {np : Nat} {w w' : World} {β β' : Beta} {U U' : Nat → Option Nat} {objs' : Nat → Obj} (h : Far np w β U (objsOf []) w' β' U' objs') : Below w.heap.size w w' :=
  h.step.below fun b ⟨id, o, ha, _⟩ => by simp [objsOf, Obj.alive] at ha

section
variable {l0 l1 l3 l4 l5 l7 : Leaf} {eb eg rest : List Leaf} {x : Row (esG l0 l1 l3 l4 l5 l7 eb eg rest)} {l nf : Nat} {n : Int} {got : List (Int × Int)} {B : Nat → Prop} {J Jx : Nat → (Nat → Prop) → World → Prop} {xs : List (List TV)}

/-- The loop's head. -/
def Head (x : Row (esG l0 l1 l3 l4 l5 l7 eb eg rest)) (l : Nat) (N : Int) (got : List (Int × Int)) (B : Nat → Prop) (J : Nat → (Nat → Prop) → World → Prop) (p : Int) (i k : Nat) (a : Act) (w : World) : Prop :=
  ∃ A Wm β U, J k A Wm ∧ Below Wm.heap.size Wm w ∧ Rel [] w a (zs B A Wm) β U (laySt [0, 1, 3, 8, 9, 10] [.raw (.func (.yield l) #[] #[]), .dptr (esG l0 l1 l3 l4 l5 l7 eb eg rest) x 0, i64 p, .d (.sl Cl) got, i64 N, i64 i] [] 49 0)
/-- Behind the loop. -/
def Tail (x : Row (esG l0 l1 l3 l4 l5 l7 eb eg rest)) (l : Nat) (n : Int) (B : Nat → Prop) (J Jx : Nat → (Nat → Prop) → World → Prop) (xs : List (List TV)) : Exit → Act → World → Prop
  | .exit 0, a, w => ∃ p k A Wm β U, J k A Wm ∧ k ≤ xs.length ∧ Below Wm.heap.size Wm w ∧ xs.drop k = gapsGo n p [] ∧ Rel [] w a (zs B A Wm) β U (laySt [0, 1, 3] [.raw (.func (.yield l) #[] #[]), .dptr (esG l0 l1 l3 l4 l5 l7 eb eg rest) x 0, i64 p] [] 49 0)
  | .ret, a, w => ∃ k A Wm, Jx (k + 1) A Wm ∧ Below Wm.heap.size Wm w ∧ a.defers = []
  | _, _, _ => False

theorem cut_less {ds : List Deferred} {w : World} {a : Act} {Z : Nat → Prop} {β : Beta} {U : Nat → Option Nat} {live : List Nat} {vals : List TV} {nt np : Nat} (live2 : List Nat) {vals2 : List TV} (h : Rel ds w a Z β U (laySt live vals [] nt np)) (hv : ∀ t, assoc (live2.zip vals2) t = .dead ∨ assoc (live2.zip vals2) t = assoc (live.zip vals) t) :
    Rel ds w a Z β U (laySt live2 vals2 [] nt np) := by
  refine ⟨fun t => ?_, h.objs, h.size, h.defers, h.nxt, h.np⟩
  have := h.slots t
  simp only [laySt] at this ⊢
  rcases hv t with e | e <;> rw [e]
  · trivial
  · exact this

theorem drop_cons {α : Type} {xs : List α} {k : Nat} {x : α} {r : List α} (h : xs.drop k = x :: r) : xs[k]? = some x ∧ xs.drop (k + 1) = r ∧ k + 1 ≤ xs.length := by
  have hk : k < xs.length := by
    rcases Nat.lt_or_ge k xs.length with h1 | h1
    · exact h1
    · rw [List.drop_eq_nil_of_le h1] at h; cases h
  rw [List.drop_eq_getElem_cons hk] at h
  cases h
  exact ⟨List.getElem?_eq_getElem hk, rfl, hk⟩

theorem wrap_small {i : Nat} (h : i < 1099511627776) : IntKind.i64.wrap ((i : Int) + 1) = ((i + 1 : Nat) : Int) := by
  have : IntKind.i64.wrap ((i : Int) + 1) = (i : Int) + 1 := IntWalk.i64_in _ (by omega)
  rw [this]; push_cast; rfl

theorem box_data {ds : List Deferred} {w : World} {a : Act} {Z : Nat → Prop} {β : Beta} {U : Nat → Option Nat} {v0 v1 v2 v4 v5 v6 : TV} {c : Int × Int} {nt : Nat}
    (h : Rel ds w a Z β U (laySt [0, 1, 3, 5, 8, 9, 10] [v0, v1, v2, .ptr 0 0, v4, v5, v6] [.box [i64 c.1, i64 c.2]] nt 0))
    (hv : ∀ v ∈ [v0, v1, v2, v4, v5, v6], pureT v = true ∨ ∃ u, v = .raw u) : Rel ds w a Z (fun _ => none) (fun _ => none) (laySt [0, 1, 3, 5, 8, 9, 10] [v0, v1, v2, .dptr Cl c 0, v4, v5, v6] [] nt 0) := by
  have hO : RelO w Z β U (objsOf [.box [i64 c.1, i64 c.2]]) := h.objs
  have hno : ∀ b, ¬ own (objsOf []) (fun _ => none) b := fun b ⟨id, o, ha, _⟩ => by simp [objsOf, Obj.alive] at ha
  have keep : ∀ (v : TV) (u : Value), (pureT v = true ∨ ∃ u, v = .raw u) → RelT w (zz (objsOf [.box [i64 c.1, i64 c.2]]) β Z) β U v u → RelT w (zz (objsOf []) (fun _ => none) Z) (fun _ => none) (fun _ => none) v u := by
    intro v u hp hr
    have h1 : RelT w (zz (objsOf []) (fun _ => none) Z) β U v u := RelT.step (WStep.refl (fun _ => False) w) (fun _ _ q => q.elim) (fun b _ q => q.elim .inl fun q => (hno b q).elim) (fun _ _ => rfl) (fun _ _ q => q) _ _ hr
    rcases hp with hp | ⟨u', rfl⟩
    · exact pureT_rel v u hp h1
    · exact h1
  refine ⟨fun t => ?_, ⟨fun _ => trivial, fun i j b o o' hi => by simp [laySt, objsOf, Obj.alive] at hi, fun _ _ => rfl, hO.zlt, fun b _ q => hno b q⟩, h.size, h.defers, fun id hid => (by cases hid), fun id hid => (by cases hid)⟩
  have ht := h.slots t
  simp only [laySt, List.zip, List.zipWith, assoc, beq_if] at ht ⊢
  simp only [List.mem_cons, List.not_mem_nil, or_false, forall_eq_or_imp, forall_eq] at hv
  obtain ⟨p0, p1, p2, p4, p5, p6⟩ := hv
  by_cases t0 : t = 0
  · simp only [t0, if_true] at ht ⊢; exact keep _ _ p0 ht
  by_cases t1 : t = 1
  · simp only [t1, if_true, if_neg (show ¬ (1 = 0) by decide)] at ht ⊢; exact keep _ _ p1 ht
  by_cases t3 : t = 3
  · subst t3; simp at ht ⊢; exact keep _ _ p2 ht
  by_cases t5 : t = 5
  · subst t5
    simp at ht ⊢
    simp only [RelT] at ht ⊢
    obtain ⟨_, b, o, hb, hv⟩ := ht
    have hob := hO.obj 0
    simp only [objsOf, List.getElem?_cons_zero, Option.getD_some, RelObj] at hob
    obtain ⟨b', o', hb', hlt, _, hc⟩ := hob
    rw [hb] at hb'
    cases hb'
    refine ⟨b, o, fun q => q.elim (fun hz => hO.apart b hz ⟨0, o, rfl, hb⟩) (hno b), hlt, hv, ?_⟩
    obtain ⟨u0, h0, r0⟩ := hc 0 _ rfl
    obtain ⟨u1, h1, r1⟩ := hc 1 _ rfl
    simp only [RelT, RelL] at r0 r1
    simp only [RelRow, RelL]
    exact ⟨⟨u0, by simpa using h0, r0⟩, u1, h1, r1⟩
  by_cases t8 : t = 8
  · subst t8; simp at ht ⊢; exact keep _ _ p4 ht
  by_cases t9 : t = 9
  · subst t9; simp at ht ⊢; exact keep _ _ p5 ht
  by_cases t10 : t = 10
  · subst t10; simp at ht ⊢; exact keep _ _ p6 ht
  · simp only [if_neg t0, if_neg t1, if_neg t3, if_neg t5, if_neg t8, if_neg t9, if_neg t10, RelT]

theorem loop_it (hround : ∀ k x A Wm W1, xs[k]? = some x → J k A Wm → Below Wm.heap.size Wm W1 → YieldAt (FW none) nf Try.prog l (valTs x).toArray W1 fun e W' =>
      (e = .returned (.bool true) ∧ J (k + 1) (since A Wm W1) W' ∧ Kept (fun b => B b ∨ since A Wm W1 b) W1 W') ∨ (e = .returned (.bool false) ∧ Jx (k + 1) (since A Wm W1) W')) (hlen : got.length < 1099511627776) : ∀ (rs : List (Int × Int)) (i k : Nat) (p : Int) (a : Act) (w : World), got.drop i = rs → i ≤ got.length → k ≤ xs.length → xs.drop k = gapsGo n p rs →
    Head (x := x) l (got.length : Int) got B J p i k a w → Code.roundsIn (FW none) (nf + 1) Try.prog (.seq (.region 2 o2 false) (.seq (.cond (.tmp 11) .skip (.exit 0)) (.seq (.block 1 (.seq (.region 3 o3 false) (.seq (.seq (.region 4 o4 false) (.cond (.tmp 28) .ret .skip)) (.region 5 o5 false)))) (.region 6 o6 false))))
      (Tail x l n B J Jx xs) (rs.length + 1) a w
  | rs, i, k, p, a, w, hrs, hi, hk, hxs, ⟨A, Wm, β, U, hJ, hb, hR⟩ => by
    rw [roundsIn_succ]
    refine wpIn_seq (region_seg (e2 l0 l1 l3 l4 l5 l7 eb eg rest x _ p (got.length : Int) i got .dead) hR fun w1 a1 β1 U1 hR1 hF1 => ?_)
    have hb1 := hb.trans ((far_below hF1).mono hb.size)
    have hR1 : Rel [] w1 a1 (zs B A Wm) β1 U1 (laySt [0, 1, 3, 8, 9, 10, 11] [.raw (.func (.yield l) #[] #[]), .dptr (esG l0 l1 l3 l4 l5 l7 eb eg rest) x 0, i64 p, .d (.sl Cl) got, i64 (got.length : Int), i64 i, .d .bool (decide ((i : Int) < (got.length : Int)))] [] 49 0) := hR1
    have hc : a1.eval (.tmp 11) = .bool (decide ((i : Int) < (got.length : Int))) := by
      have := hR1.slots 11
      exact this
    cases rs with
    | nil =>
      have hi' : i = got.length := by
        have := congrArg List.length hrs
        simp at this; omega
      have hd : decide ((i : Int) < (got.length : Int)) = false := by simp; omega
      rw [hd] at hc
      refine wpIn_seq (wpIn_cond_false hc (wpIn_exit ?_))
      exact ⟨p, k, A, Wm, β1, U1, hJ, hk, hb1, hxs, cut_less [0, 1, 3] hR1 (fun t => by
        simp only [List.zip, List.zipWith, assoc, beq_if]
        split <;> (try split) <;> (try split) <;> simp_all)⟩
    | cons c cs =>
      have hi' : i < got.length := by
        rcases Nat.lt_or_ge i got.length with h | h
        · exact h
        · rw [List.drop_eq_nil_of_le h] at hrs; cases hrs
      obtain ⟨hci, hrs', _⟩ := drop_cons hrs
      have hd : decide ((i : Int) < (got.length : Int)) = true := by simp; omega
      rw [hd] at hc
      let Q3 := Exit.then (Code.roundsIn (FW none) (nf + 1) Try.prog (.seq (.region 2 o2 false) (.seq (.cond (.tmp 11) .skip (.exit 0)) (.seq (.block 1 (.seq (.region 3 o3 false) (.seq (.seq (.region 4 o4 false) (.cond (.tmp 28) .ret .skip)) (.region 5 o5 false)))) (.region 6 o6 false)))) (Tail x l n B J Jx xs) (cs.length + 1)) (Tail x l n B J Jx xs)
      let Q2 := Exit.inBlock 1 (Exit.then ((Code.region 6 o6 false).wpIn (FW none) (nf + 1) Try.prog Q3) Q3)
      let Q1 := Exit.then ((Code.region 5 o5 false).wpIn (FW none) (nf + 1) Try.prog Q2) Q2
      -- when the round goes on
      have after : ∀ (k' : Nat) (A' : Nat → Prop) (Wm' w' : World) (a' : Act) (β' : Beta) (U' : Nat → Option Nat), J k' A' Wm' → k' ≤ xs.length → xs.drop k' = gapsGo n (IntKind.i64.wrap (c.1 + c.2)) cs → Below Wm'.heap.size Wm' w' →
          Rel [] w' a' (zs B A' Wm') β' U' (laySt [0, 1, 3, 5, 8, 9, 10, 28] [.raw (.func (.yield l) #[] #[]), .dptr (esG l0 l1 l3 l4 l5 l7 eb eg rest) x 0, i64 p, .dptr Cl c 0, .d (.sl Cl) got, i64 (got.length : Int), i64 i, .d .bool false] [] 49 0) →
          (Code.cond (.tmp 28) .ret .skip).wpIn (FW none) (nf + 1) Try.prog Q1 a' w' := by
        intro k' A' Wm' w' a' β' U' hJ' hk' hxs' hb' hR'
        have hc28 : a'.eval (.tmp 28) = .bool false := hR'.slots 28
        refine wpIn_cond_false hc28 (wpIn_skip ?_)
        refine region_seg (e5 l0 l1 l3 l4 l5 l7 eb eg rest x _ p (got.length : Int) i got c) hR' fun w5 a5 β5 U5 hR5 hF5 => ?_
        refine region_seg (e6 l0 l1 l3 l4 l5 l7 eb eg rest x _ (IntKind.i64.wrap (c.1 + c.2)) (got.length : Int) i got) hR5 fun w6 a6 β6 U6 hR6 hF6 => ?_
        have hR6 : Rel [] w6 a6 (zs B A' Wm') β6 U6 (laySt [0, 1, 3, 8, 9, 10] [.raw (.func (.yield l) #[] #[]), .dptr (esG l0 l1 l3 l4 l5 l7 eb eg rest) x 0, i64 (IntKind.i64.wrap (c.1 + c.2)), .d (.sl Cl) got, i64 (got.length : Int), i64 (IntKind.i64.wrap ((i : Int) + 1))] [] 49 0) := hR6
        rw [wrap_small (by omega)] at hR6
        have hb5 := hb'.trans ((far_below hF5).mono hb'.size)
        have hb6 := hb5.trans ((far_below hF6).mono hb5.size)
        exact loop_it hround hlen cs (i + 1) k' _ a6 w6 hrs' (by omega) hk' hxs' ⟨A', Wm', β6, U6, hJ', hb6, hR6⟩
      refine wpIn_seq (wpIn_cond_true hc (wpIn_skip ?_))
      have hR1' : Rel [] w1 a1 (zs B A Wm) β1 U1 (laySt [0, 1, 3, 8, 9, 10] [.raw (.func (.yield l) #[] #[]), .dptr (esG l0 l1 l3 l4 l5 l7 eb eg rest) x 0, i64 p, .d (.sl Cl) got, i64 (got.length : Int), i64 i] [] 49 0) := by
        refine cut_less [0, 1, 3, 8, 9, 10] hR1 fun t => ?_
        simp only [List.zip, List.zipWith, assoc, beq_if]
        repeat' (first | split | (simp_all; done))
      have h3 := e3 l0 l1 l3 l4 l5 l7 eb eg rest x (.func (.yield l) #[] #[]) p (got.length : Int) i got
      rw [Int.toNat_natCast, hci] at h3
      refine wpIn_seq (wpIn_block (wpIn_seq (region_seg h3 hR1' fun w3 a3 β3 U3 hR3 hF3 => ?_)))
      have hb3 := hb1.trans ((far_below hF3).mono hb1.size)
      have hR3 := box_data hR3 (by
        intro v hv
        simp only [List.mem_cons, List.not_mem_nil, or_false] at hv
        rcases hv with rfl | rfl | rfl | rfl | rfl | rfl <;> first | exact .inl rfl | exact .inr ⟨_, rfl⟩)
      refine wpIn_seq (wpIn_seq ?_)
      by_cases hg : p < c.1
      · have hgd : decide (c.1 > p) = true := by simpa using hg
        simp only [gapsGo, show decide (p < c.1) = true by simpa using hg, cond_true] at hxs
        obtain ⟨hxk, hxs', hk'⟩ := drop_cons hxs
        have h4 := e4a l0 l1 l3 l4 l5 l7 eb eg rest x (.func (.yield l) #[] #[]) p (got.length : Int) i got c
        rw [hgd] at h4
        refine wpIn_region_list ?_
        rw [o4_split]
        refine wpListIn_append _ _ _ _ (ops_seg h4 hR3 fun w4 a4 β4 U4 hR4 hF4 => ?_)
        have hb4 := hb3.trans ((far_below hF4).mono hb3.size)
        have s18 : a4.tmps.getD 18 undef = .bool true := hR4.slots 18
        have s19 : a4.tmps.getD 19 undef = .func (.yield l) #[] #[] := (hR4.slots 19).1
        have s25 : a4.tmps.getD 25 undef = valT (.agg [i64 p, i64 (IntKind.i64.wrap (c.1 - p))]) := by
          have h25 : RelT w4 (zz (objsOf []) β4 (zs B A Wm)) β4 U4 (.agg [i64 p, i64 (IntKind.i64.wrap (c.1 - p))]) (a4.tmps.getD 25 undef) := hR4.slots 25
          simp only [RelT, RelTs, RelL] at h25
          obtain ⟨vs, e1, v, vs', e2, rfl, v', vs'', e3, rfl, e4⟩ := h25
          rw [e1]
          have : vs = #[.int .i64 p, .int .i64 (IntKind.i64.wrap (c.1 - p))] := by
            rw [← Array.toList_inj, e2, e3, e4]
          rw [this]; rfl
        have hY := hround k _ A Wm w4 hxk hJ hb4
        have hyl := yields (ops := o4) (a := a4) o4_dst s18
        show wpListIn _ _ _ _ _ (op4 :: _) a4 w4
        unfold wpListIn
        have hw : Region.wanted op4 (yielded o4 a4.tmps) = true := by
          have hgd4 : op4.guard = some (4, true) := by rw [op4_eq]
          simp [Region.wanted, hgd4, hyl]
        rw [if_pos hw, op4_eq]
        refine yield_op s19 s25 hY fun e w' he => ?_
        rcases he with ⟨rfl, hJ', hkept⟩ | ⟨rfl, hJ'⟩
        · refine ⟨_, rfl, ?_⟩
          have hR4' := cross hR4 hkept hb4.size
          have hR5 : Rel [] w' (a4.put (some 26) (.bool true)) (zs B (since A Wm w4) w') β4 U4 ((laySt [0, 1, 3, 5, 8, 9, 10, 18, 19, 25] [.raw (.func (.yield l) #[] #[]), .dptr (esG l0 l1 l3 l4 l5 l7 eb eg rest) x 0, i64 p, .dptr Cl c 0, .d (.sl Cl) got, i64 (got.length : Int), i64 i, .d .bool true, .raw (.func (.yield l) #[] #[]), .agg [i64 p, i64 (IntKind.i64.wrap (c.1 - p))]] [] 49 0).put (some 26) (.d .bool true)) :=
            ⟨slots_put hR4'.slots hR4'.size (x := .d .bool true) rfl (some 26), hR4'.objs, by
              have h0 : a4.tmps.size = 49 := hR4'.size
              simp only [Act.put, Array.size_setIfInBounds]
              exact h0, hR4'.defers, hR4'.nxt, hR4'.np⟩
          refine ops_seg (e4b l0 l1 l3 l4 l5 l7 eb eg rest x _ p (got.length : Int) i got c _) hR5 fun w5 a5 β5 U5 hR6 hF5 => ?_
          exact after (k + 1) _ w' w5 a5 β5 U5 hJ' hk' hxs' (far_below hF5) hR6
        · refine ⟨_, rfl, ?_⟩
          have hno : ∀ b, ¬ own (objsOf []) (fun _ => none) b := fun b ⟨id, o, ha, _⟩ => by simp [objsOf, Obj.alive] at ha
          have hsz : a4.tmps.size = 49 := hR4.size
          have hR5 : Rel [] w' (a4.put (some 26) (.bool false)) (fun _ => False) (fun _ => none) (fun _ => none) (laySt [18, 26] [.d .bool true, .d .bool false] [] 49 0) := by
            refine ⟨fun t => ?_, ⟨fun _ => trivial, fun i j b o o' hi => by simp [laySt, objsOf, Obj.alive] at hi, fun _ _ => rfl, fun _ h => h.elim, fun b h => h.elim⟩, by simpa [Act.put, laySt] using hsz, hR4.defers, fun id hid => (by cases hid), fun id hid => (by cases hid)⟩
            simp only [laySt, List.zip, List.zipWith, assoc, beq_if]
            by_cases t18 : t = 18
            · subst t18
              simp only [if_true, RelT, RelL, Act.put]
              rw [← s18]
              simp [Array.getD_eq_getD_getElem?, Array.getElem?_setIfInBounds]
            by_cases t26 : t = 26
            · subst t26
              simp only [if_neg (show ¬ (26 = 18) by decide), if_true, RelT, RelL, Act.put]
              simp [Array.getD_eq_getD_getElem?, Array.getElem?_setIfInBounds, hsz]
            · simp only [if_neg t18, if_neg t26, RelT]
          refine ops_seg e4c hR5 fun w5 a5 β5 U5 hR6 hF5 => ?_
          have hc28 : a5.eval (.tmp 28) = .bool true := hR6.slots 28
          refine wpIn_cond_true hc28 (wpIn_ret ?_)
          exact ⟨k, _, w', hJ', far_below hF5, hR6.defers⟩
      · have hgd : decide (c.1 > p) = false := by simpa using hg
        have h4 := e4 l0 l1 l3 l4 l5 l7 eb eg rest x (.func (.yield l) #[] #[]) p (got.length : Int) i got c
        rw [hgd] at h4
        refine region_seg h4 hR3 fun w4 a4 β4 U4 hR4 hF4 => ?_
        have hb4 := hb3.trans ((far_below hF4).mono hb3.size)
        refine after k A Wm w4 a4 β4 U4 hJ hk ?_ hb4 hR4
        rw [hxs]
        simp only [gapsGo, show decide (p < c.1) = false by simpa using hg, cond_false]
end

theorem iter130 : IterOK Try.prog 130 gapsIt := by
  intro caps xs h
  unfold gapsIt at h
  split at h
  · rename_i l0 l1 lb l3 l4 l5 lg l7 rest x j
    cases hj : Nat.beq j 0 with
    | false => rw [hj] at h; cases h
    | true =>
    rw [hj] at h
    have hj0 := Nat.eq_of_beq_eq_true hj
    subst hj0
    obtain ⟨blk, hblk, h⟩ := Option.bind_eq_some_iff.1 h
    obtain ⟨got, hgot, h⟩ := Option.bind_eq_some_iff.1 h
    cases hl : decide (got.length < 1099511627776) with
    | false => rw [hl] at h; cases h
    | true =>
    rw [hl] at h
    cases h
    have hlen : got.length < 1099511627776 := by simpa using hl
    refine ⟨⟨Try.f130, Try.func130, by kernel_rfl, by kernel_rfl⟩, fun W Z cv hZ hcaps l nf J Jx hround hJ0 => ?_⟩
    -- the leaves
    simp only [RelTs] at hcaps
    obtain ⟨v, vs', hcv, hv, hnil⟩ := hcaps
    have hrow : ∃ b o, ¬ Z b ∧ b < W.heap.size ∧ v = .pointer (some ⟨b, o + 0, none⟩) ∧ RelRow W Z (l0 :: l1 :: lb :: l3 :: l4 :: l5 :: lg :: l7 :: rest) x b o := by simpa only [RelT] using hv
    obtain ⟨eb, xb, hab, hlb⟩ : ∃ eb xb, (⟨lb, x.2.2.1⟩ : LV) = ⟨.sl eb, xb⟩ ∧ (lst (es := eb) xb).length = blk.length := by
      obtain ⟨b, o, _, _, _, hr⟩ := hrow
      obtain ⟨u, _, hru⟩ := leaves_at _ x b o hr 2 ⟨lb, x.2.2.1⟩ rfl
      exact (slOf_rel hblk hru).2
    obtain ⟨eg, xg, hag, hlg⟩ : ∃ eg xg, (⟨lg, x.2.2.2.2.2.2.1⟩ : LV) = ⟨.sl eg, xg⟩ ∧ (lst (es := eg) xg).length = got.length := by
      obtain ⟨b, o, _, _, _, hr⟩ := hrow
      obtain ⟨u, _, hru⟩ := leaves_at _ x b o hr 6 ⟨lg, x.2.2.2.2.2.2.1⟩ rfl
      exact (slOf_rel hgot hru).2
    have e1 : lb = .sl eb := congrArg LV.l hab
    have e2 : lg = .sl eg := congrArg LV.l hag
    subst e1; subst e2
    have hxb : x.2.2.1 = xb := by injection hab
    have hxg : x.2.2.2.2.2.2.1 = xg := by injection hag
    subst hxb; subst hxg
    refine callsIn_of_wp Try.func130 it_shape trivial ?_
    have hnt : Try.f130.ntmps = 49 := by kernel_rfl
    have hres : Try.f130.results = #[] := by kernel_rfl
    have hno : ∀ b, ¬ own (objsOf []) (fun _ => none) b := fun b ⟨id, o, ha, _⟩ => by simp [objsOf, Obj.alive] at ha
    have hcv' : cv = #[v] := by
      rw [← Array.toList_inj, hcv, hnil]
    have done : ∀ (a : Act) (w : World), a.defers = [] → ((∃ A Wm, J (gapsGo ((blk.length : Nat) : Int) 0 got).length A Wm ∧ Below Wm.heap.size Wm w) ∨ (∃ k A Wm, Jx (k + 1) A Wm ∧ Below Wm.heap.size Wm w)) →
        a.defers = [] ∧ ∃ u, (results Try.f130 a.tmps).run Try.prog w = .ok u w ∧ ((∃ v, Ending.returned u = .returned v) ∧
          ((∃ A Wm, J (gapsGo ((blk.length : Nat) : Int) 0 got).length A Wm ∧ Below Wm.heap.size Wm w) ∨ (∃ k A Wm, Jx (k + 1) A Wm ∧ Below Wm.heap.size Wm w))) := by
      intro a w hd h
      refine ⟨hd, .tuple #[], ?_, ⟨_, rfl⟩, h⟩
      rw [results_eq, hres]
      simp
    generalize hB : (fun b => b < W.heap.size ∧ ¬ Z b) = B at hround
    have hZ0 : ∀ b, zs B (fun _ => False) W b → Z b := fun b ⟨h1, h2, _⟩ => by
      rw [← hB] at h2
      exact Classical.byContradiction fun hz => h2 ⟨h1, hz⟩
    have hR0 : Rel [] W { tmps := (#[Value.func (.yield l) #[] #[]] ++ cv) ++ Array.replicate (Try.f130.ntmps - (#[Value.func (.yield l) #[] #[]] ++ cv).size) undef, defers := [] } (zs B (fun _ => False) W) (fun _ => none) (fun _ => none)
        (laySt [0, 1] [.raw (.func (.yield l) #[] #[]), .dptr (esG l0 l1 l3 l4 l5 l7 eb eg rest) x 0] [] 49 0) := by
      rw [hcv', hnt]
      have g0 : ((#[Value.func (.yield l) #[] #[]] ++ #[v]) ++ Array.replicate (49 - (#[Value.func (.yield l) #[] #[]] ++ #[v]).size) undef).getD 0 undef = Value.func (.yield l) #[] #[] := by simp [Array.getD_eq_getD_getElem?]
      have g1 : ((#[Value.func (.yield l) #[] #[]] ++ #[v]) ++ Array.replicate (49 - (#[Value.func (.yield l) #[] #[]] ++ #[v]).size) undef).getD 1 undef = v := by simp [Array.getD_eq_getD_getElem?]
      have g2 : ((#[Value.func (.yield l) #[] #[]] ++ #[v]) ++ Array.replicate (49 - (#[Value.func (.yield l) #[] #[]] ++ #[v]).size) undef).size = 49 := by simp
      generalize (#[Value.func (.yield l) #[] #[]] ++ #[v]) ++ Array.replicate (49 - (#[Value.func (.yield l) #[] #[]] ++ #[v]).size) undef = tm at g0 g1 g2
      refine ⟨fun t => ?_, ⟨fun _ => trivial, fun i j b o o' hi => by simp [laySt, objsOf, Obj.alive] at hi, fun _ _ => rfl, fun b hb => hb.1, fun b _ q => hno b q⟩, g2, rfl, fun id hid => (by cases hid), fun id hid => (by cases hid)⟩
      simp only [laySt, List.zip, List.zipWith, assoc, beq_if]
      by_cases t0 : t = 0
      · subst t0
        simp only [if_true, RelT]
        exact ⟨g0, by rfl⟩
      by_cases t1 : t = 1
      · subst t1
        simp only [if_neg (show ¬ (1 = 0) by decide), if_true]
        rw [g1]
        exact RelT.step (WStep.refl (fun _ => False) W) (fun _ _ q => q.elim) (fun b _ q => q.elim (hZ0 b) fun q => (hno b q).elim) (fun _ _ => rfl) (fun _ _ q => q) _ _ hv
      · simp only [if_neg t0, if_neg t1, RelT]
    refine wpIn_seq (region_seg (e0 l0 l1 l3 l4 l5 l7 eb eg rest x _) hR0 fun w1 a1 β1 U1 hR1 hF1 => ?_)
    have hb1 : Below W.heap.size W w1 := far_below hF1
    refine wpIn_seq (wpIn_seq (region_seg (e1 l0 l1 l3 l4 l5 l7 eb eg rest x _ 0) hR1 fun w2 a2 β2 U2 hR2 hF2 => ?_))
    have hb2 : Below W.heap.size W w2 := hb1.trans ((far_below hF2).mono hb1.size)
    have hR2' : Rel [] w2 a2 (zs B (fun _ => False) W) β2 U2 (laySt [0, 1, 3, 8, 9, 10] [.raw (.func (.yield l) #[] #[]), .dptr (esG l0 l1 l3 l4 l5 l7 eb eg rest) x 0, i64 0, .d (.sl Cl) got, i64 (got.length : Int), i64 ((0 : Nat) : Int)] [] 49 0) := by
      refine ⟨fun t => ?_, hR2.objs, hR2.size, hR2.defers, hR2.nxt, hR2.np⟩
      have ht := hR2.slots t
      simp only [laySt, List.zip, List.zipWith, assoc, beq_if] at ht ⊢
      by_cases t8 : t = 8
      · subst t8
        simp only [if_neg (show ¬ (8 = 0) by decide), if_neg (show ¬ (8 = 1) by decide), if_neg (show ¬ (8 = 3) by decide), if_true, RelT] at ht ⊢
        exact (slOf_rel hgot ht).1
      · by_cases t9 : t = 9
        · subst t9
          simp only [if_neg (show ¬ (9 = 0) by decide), if_neg (show ¬ (9 = 1) by decide), if_neg (show ¬ (9 = 3) by decide), if_neg (show ¬ (9 = 8) by decide), if_true] at ht ⊢
          rw [hlg] at ht
          exact ht
        · simp only [if_neg t8, if_neg t9] at ht ⊢
          exact ht
    refine wpIn_block (wpIn_mono (wpIn_loop_rounds (got.length + 1) (loop_it hround hlen got 0 0 0 a2 w2 rfl (Nat.zero_le _) (Nat.zero_le _) rfl ⟨fun _ => False, W, β2, U2, hJ0, hb2, hR2'⟩)) fun e a3 w3 ht => ?_)
    cases e with
    | normal => exact ht.elim
    | goto i => exact ht.elim
    | panic c => exact ht.elim
    | outgrown => exact ht.elim
    | ret =>
      obtain ⟨k, A, Wm, h1, h2, h3⟩ := ht
      exact done a3 w3 h3 (.inr ⟨k, A, Wm, h1, h2⟩)
    | exit i =>
      cases i with
      | succ i => exact ht.elim
      | zero =>
      obtain ⟨p, k, A, Wm, β3, U3, hJ, hk, hb3, hxs, hR3⟩ := ht
      refine wpIn_seq (region_seg (e7 l0 l1 l3 l4 l5 l7 eb eg rest x _ p) hR3 fun w4 a4 β4 U4 hR4 hF4 => ?_)
      have hb4 := hb3.trans ((far_below hF4).mono hb3.size)
      have hR4 : Rel [] w4 a4 (zs B A Wm) β4 U4 (laySt [0, 3, 6] [.raw (.func (.yield l) #[] #[]), i64 p, i64 ((blk.length : Nat) : Int)] [] 49 0) := by
        rw [← hlb]; exact hR4
      refine wpIn_seq (region_seg (e8 _ p ((blk.length : Nat) : Int)) hR4 fun w5 a5 β5 U5 hR5 hF5 => ?_)
      have hb5 := hb4.trans ((far_below hF5).mono hb4.size)
      have hR5 : Rel [] w5 a5 (zs B A Wm) β5 U5 (laySt [0, 3, 6, 41] [.raw (.func (.yield l) #[] #[]), i64 p, i64 ((blk.length : Nat) : Int), .d .bool (decide (p < ((blk.length : Nat) : Int)))] [] 49 0) := hR5
      have hc41 : a5.eval (.tmp 41) = .bool (decide (p < ((blk.length : Nat) : Int))) := hR5.slots 41
      cases hd : decide (p < ((blk.length : Nat) : Int)) with
      | false =>
        rw [hd] at hc41
        refine wpIn_cond_false hc41 (wpIn_skip (done a5 w5 hR5.defers (.inl ⟨A, Wm, ?_, hb5⟩)))
        simp only [gapsGo, hd, cond_false] at hxs
        have : k = (gapsGo ((blk.length : Nat) : Int) 0 got).length := by
          have := congrArg List.length hxs
          simp at this; omega
        rw [← this]; exact hJ
      | true =>
        rw [hd] at hc41 hR5
        refine wpIn_cond_true hc41 (wpIn_region_list ?_)
        rw [o9_split]
        refine wpListIn_append _ _ _ _ (ops_seg (e9a _ p ((blk.length : Nat) : Int)) hR5 fun w6 a6 β6 U6 hR6 hF6 => ?_)
        have hb6 := hb5.trans ((far_below hF6).mono hb5.size)
        have s42 : a6.tmps.getD 42 undef = .func (.yield l) #[] #[] := (hR6.slots 42).1
        have s47 : a6.tmps.getD 47 undef = valT (.agg [i64 p, i64 (IntKind.i64.wrap (((blk.length : Nat) : Int) - p))]) := by
          have h25 : RelT w6 (zz (objsOf []) β6 (zs B A Wm)) β6 U6 (.agg [i64 p, i64 (IntKind.i64.wrap (((blk.length : Nat) : Int) - p))]) (a6.tmps.getD 47 undef) := hR6.slots 47
          simp only [RelT, RelTs, RelL] at h25
          obtain ⟨vs, e1, v, vs', e2, rfl, v', vs'', e3, rfl, e4⟩ := h25
          rw [e1]
          have : vs = #[.int .i64 p, .int .i64 (IntKind.i64.wrap (((blk.length : Nat) : Int) - p))] := by
            rw [← Array.toList_inj, e2, e3, e4]
          rw [this]; rfl
        simp only [gapsGo, hd, cond_true] at hxs
        obtain ⟨hxk, hxs', hk'⟩ := drop_cons hxs
        have hke : k + 1 = (gapsGo ((blk.length : Nat) : Int) 0 got).length := by
          have := congrArg List.length hxs'
          simp at this; omega
        have hY := hround k _ A Wm w6 hxk hJ hb6
        show wpListIn _ _ _ _ _ (op9 :: _) a6 w6
        unfold wpListIn
        have hw : Region.wanted op9 (yielded o9 a6.tmps) = true := by
          have hgd4 : op9.guard = none := by rw [op9_eq]
          simp [Region.wanted, hgd4]
        rw [if_pos hw, op9_eq]
        refine yield_op s42 s47 hY fun e w' he => ?_
        rcases he with ⟨rfl, hJ', hkept⟩ | ⟨rfl, hJ'⟩
        · refine ⟨_, rfl, done _ w' hR6.defers (.inl ⟨since A Wm w6, w', ?_, Below.refl _ _⟩)⟩
          rw [← hke]; exact hJ'
        · exact ⟨_, rfl, done _ w' hR6.defers (.inr ⟨k, _, w', hJ', Below.refl _ _⟩)⟩
  · cases h
end Go.Te
