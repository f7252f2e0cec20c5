/-
  heliographlaw14.SenderGaps: what is claimed and what is not have, together, each byte once.
  No conditions: every input that the statement lets in. Part TeY: own work.
-/
import Derived.Test.YtfjklknekiogcaaTeQ
import Derived.RangeFuncNested
import Derived.RangeFuncLeaves
set_option linter.unusedVariables false
set_option linter.unusedSimpArgs false
namespace Go.Te
open Go.RowKit

/-! ### 40. Code -/
def TExit.of : TExit → Exit
  | .normal => .normal
  | .exit id => .exit id
  | .goto l => .goto l
  | .ret => .ret

def mark (D : Nat) : Deferred := { target := .collected D, args := #[] }
/-- The marks that a part has laid (ranges over a function). -/
def Marks (w w' : World) (o' : Nat → Prop) (Ds : List Nat) : Prop := Ds.Nodup ∧ ∀ D ∈ Ds, w.heap.size ≤ D ∧ w'.heap[D]? = some (.deferred (some [])) ∧ ¬ o' D
theorem Marks.nil (w w' : World) (o' : Nat → Prop) : Marks w w' o' [] := ⟨List.nodup_nil, fun _ h => by cases h⟩
theorem Marks.trans {np : Nat} {w w1 w' : World} {β1 β' : Beta} {U1 U' : Nat → Option Nat} {objs1 objs' : Nat → Obj} {Ds Ds' : List Nat} (h : Marks w w1 (own objs1 β1) Ds) (hs : w.heap.size ≤ w1.heap.size)
    (hf : Far np w1 β1 U1 objs1 w' β' U' objs') (h' : Marks w1 w' (own objs' β') Ds') : Marks w w' (own objs' β') (Ds' ++ Ds) := by
  have hlt : ∀ D ∈ Ds, D < w1.heap.size := fun D hD => (Array.getElem?_eq_some_iff.1 (h.2 D hD).2.1).1
  refine ⟨List.nodup_append.2 ⟨h'.1, h.1, fun a ha b hb e => ?_⟩, fun D hD => ?_⟩
  · subst e
    have := (h'.2 a ha).1
    have := hlt a hb
    omega
  · rcases List.mem_append.1 hD with hD | hD
    · obtain ⟨h1, h2, h3⟩ := h'.2 D hD
      exact ⟨Nat.le_trans hs h1, h2, h3⟩
    · obtain ⟨h1, h2, h3⟩ := h.2 D hD
      exact ⟨h1, (hf.step.block D (hlt D hD) h3).trans h2, fun q => h3 (hf.own D (hlt D hD) q)⟩

def PieceOK (P : Program) (ρ : Option Nat) (nt : Nat) (c : Code) (p : Piece) : Prop :=
  ∀ (ds : List Deferred) (nf : Nat) (R : Type) vals objs (K : TExit → List TV → List Obj → Option R) r np, p.run R np vals objs K = some r → ∀ w a Z β U, Rel ds w a Z β U (laySt p.ins vals objs nt np) → (∀ id, id < objs.length → (U id).isSome = true) →
    c.wpIn (FW ρ) nf P (fun e a' w' => ∃ te vals' objs' β' U' Ds, e = te.of ∧ K te vals' objs' = some r ∧ Rel (Ds.map mark ++ ds) w' a' Z β' U' (laySt (p.outs te) vals' objs' nt np) ∧ Far np w β U (objsOf objs) w' β' U' (objsOf objs') ∧
      Marks w w' (own (objsOf objs') β') Ds) a w

def PiecesOK (P : Program) (E : Env) (ρ : Option Nat) (fid nt : Nat) : Code → Prop
  | .seq a b => PiecesOK P E ρ fid nt a ∧ PiecesOK P E ρ fid nt b
  | .cond c x y => (∀ p, E.piece fid (condKey c) = some p → PieceOK P ρ nt (.cond c x y) p) ∧ PiecesOK P E ρ fid nt x ∧ PiecesOK P E ρ fid nt y
  | .block _ c => PiecesOK P E ρ fid nt c
  | .loop c => ∀ p, E.piece fid (2 * firstReg c) = some p → PieceOK P ρ nt (.loop c) p
  | .scope c => ∀ p, E.piece fid (scopeKey c) = some p → PieceOK P ρ nt (.scope c) p
  | .rangeFunc g ps a c => ∀ p, E.piece fid (2 * firstReg c) = some p → PieceOK P ρ nt (.rangeFunc g ps a c) p
  | _ => True

structure EnvOK (P : Program) (E : Env) : Prop where
  T : TOk P E.T
  mixed : P.follows .mixedOrders = true
  sem : ∀ f c, E.sem f = some c → ConOK P f c
  natural : ∀ f c, E.sem f = some c → c.natural

theorem semCall_once {P : Program} {E : Env} (h : EnvOK P E) (R : Type) : semCall E R = once (semCall E) := by
  funext f args objs K
  simp only [semCall, once]
  cases hs : E.sem f with
  | none => rfl
  | some c => exact h.natural f c hs R args objs K
theorem semCall_ok {P : Program} {E : Env} (h : EnvOK P E) (R : Type) : CallOK P (semCall E R) := by
  intro f args objs K r hr
  obtain ⟨c, hs, hr⟩ := Option.bind_eq_some_iff.1 hr
  exact h.sem f c hs R args objs K r hr

section
variable {ds : List Deferred} {ρ : Option Nat} {nf : Nat} {P : Program} {E : Env} {call : (R : Type) → Nat → List TV → List Obj → (TV → List Obj → Option R) → Option R} {Z : Nat → Prop} {w : World} {a : Act} {β : Beta} {U : Nat → Option Nat} {s : St}

theorem Rel.mid (h : Rel ds w a Z β U s) : Mid ds w a Z β U s (fun id => id < s.nxt) := ⟨h.slots, h.objs, h.size, h.defers, h.nxt, h.np⟩
theorem Mid.rel (h : Mid ds w a Z β U s (fun id => id < s.nxt)) : Rel ds w a Z β U s := ⟨h.slots, h.objs, h.size, h.defers, h.lim, h.np⟩
theorem Mid.again {s' : St} {lim : Nat → Prop} (h : Mid ds w a Z β U s lim) (h1 : s'.slots = s.slots) (h2 : s'.objs = s.objs) (h3 : Same s s' ∨ (s'.nt = s.nt ∧ s'.np = s.np)) : Mid ds w a Z β U s' lim := by
  have h3' : s'.nt = s.nt ∧ s'.np = s.np := h3.elim (fun q => ⟨q.nt, q.np⟩) (fun q => q)
  exact ⟨by rw [h1, h2]; exact h.slots, by rw [h2]; exact h.objs, by rw [h3'.1]; exact h.size, h.defers, h.lim, by rw [h3'.2]; exact h.np⟩
theorem drew_step (w : World) : WStep (fun _ => False) w { w with drawn := w.drawn + 1 } := ⟨rfl, rfl, rfl, Nat.le_refl _, fun _ _ _ => rfl, fun _ _ => rfl, fun _ _ _ => rfl⟩
theorem Mid.drew {lim : Nat → Prop} (h : Mid ds w a Z β U s lim) : Mid ds { w with drawn := w.drawn + 1 } a Z β U s lim :=
  ⟨fun t => RelT.step (drew_step w) (fun _ _ q => q.elim) (fun _ _ q => q) (fun _ _ => rfl) (fun _ _ q => q) _ _ (h.slots t), h.objs.still (drew_step w), h.size, h.defers, h.lim, h.np⟩

/-! The parts of a state that are told. -/
theorem idsTs_mem : ∀ (xs : List TV) (id : Nat), id ∈ idsTs xs → ∃ x ∈ xs, id ∈ idsT x
  | [], _, h => by simp [idsTs] at h
  | x :: xs, id, h => by
    simp only [idsTs, List.mem_append] at h
    rcases h with h | h
    · exact ⟨x, by simp, h⟩
    · obtain ⟨y, hy, h⟩ := idsTs_mem xs id h
      exact ⟨y, by simp [hy], h⟩
theorem renTs_eq (m : Nat → Option Nat) : ∀ (xs : List TV), renTs m xs = xs.map (renT m)
  | [] => rfl
  | x :: xs => by simp [renTs, renTs_eq m xs]

theorem gather_range (objs : Nat → Obj) (ok : Nat → Prop) (hok : ∀ id, ok id → ∀ j ∈ idsO (objs id), ok j) (rest : List Nat) : ∀ (c n k : Nat) (found : List (Nat × Obj)) (rest : List Nat) (rd : List Nat) (l : List (Nat × Obj)),
    (found.reverse.map (·.1)) = List.range k → (gather n (List.range' k c ++ rest) found).Runs objs rd l → (∀ id ∈ List.range' k c ++ rest, ok id) → (∀ p ∈ found, p.2 = objs p.1 ∧ ok p.1) → ∃ more, l.map (·.1) = List.range (k + c) ++ more
  | 0, n, k, found, rest, rd, l, hf, h, h1, h2 => by
    have hn : (found.map (·.1)).Nodup := by
      have : (found.reverse.map (·.1)).Nodup := by rw [hf]; exact List.nodup_range
      rw [List.map_reverse] at this
      exact (List.reverse_perm _).nodup_iff.1 this
    obtain ⟨_, _, more, e⟩ := gather_ok objs ok hok n _ found rd l h h1 h2 hn
    exact ⟨more.map (·.1), by rw [e, List.map_append, hf, Nat.add_zero]⟩
  | c + 1, 0, k, found, rest, rd, l, hf, h, h1, h2 => by
    simp only [List.range'_succ, List.cons_append] at h
    exact h.elim
  | c + 1, n + 1, k, found, rest, rd, l, hf, h, h1, h2 => by
    simp only [List.range'_succ, List.cons_append, gather] at h
    have hk : (found.any fun p => p.1 == k) = false := by
      rw [List.any_eq_false]
      intro p hp e
      have : p.1 ∈ List.range k := by rw [← hf]; exact List.mem_map_of_mem (by simpa using hp)
      simp only [List.mem_range] at this
      simp only [beq_iff_eq] at e
      omega
    rw [hk] at h
    obtain ⟨rd', _, h⟩ := h
    dsimp only at h
    rw [List.append_assoc] at h
    have hkok : ok k := h1 k (by simp [List.range'_succ])
    have := gather_range objs ok hok rest c n (k + 1) ((k, objs k) :: found) (rest ++ idsO (objs k)) rd' l (by simp [hf, List.range_succ]) h (fun id hid => by
      rw [← List.append_assoc] at hid
      rcases List.mem_append.1 hid with hid | hid
      · exact h1 id (by rw [List.range'_succ]; simp only [List.cons_append, List.mem_cons]; exact .inr hid)
      · exact hok k hkok id hid) (fun p hp => by
      rcases List.mem_cons.1 hp with rfl | hp
      · exact ⟨rfl, hkok⟩
      · exact h2 p hp)
    rwa [show k + (c + 1) = k + 1 + c by omega]

theorem gather_all (hO : RelO w Z β U s.objs) {np : Nat} (hnp : ∀ id, id < np → (U id).isSome = true) {xs : List TV} (hx : ∀ x ∈ xs, ∃ v, RelT w (zz s.objs β Z) β U x v) {rd : List Nat} {l : List (Nat × Obj)} (h : (gather 64 (List.range np ++ idsTs xs) []).Runs s.objs rd l) :
    ∃ m, m = l.map (·.1) ∧ m.Nodup ∧ (∀ id ∈ m, (U id).isSome = true) ∧ (l.map fun p => renO (place m) p.2) = m.map (fun id => renO (place m) (s.objs id)) ∧ ∀ id, id < np → m[id]? = some id := by
  have hall : ∀ id ∈ List.range np ++ idsTs xs, (U id).isSome = true := fun id hid => by
    rcases List.mem_append.1 hid with hid | hid
    · exact hnp id (List.mem_range.1 hid)
    · obtain ⟨x, hx', hid⟩ := idsTs_mem xs id hid
      obtain ⟨v, hv⟩ := hx x hx'
      exact relT_ids x v hv id hid
  obtain ⟨g1, g2, _⟩ := gather_ok s.objs (fun id => (U id).isSome = true) (fun id hid => use_of hO id hid) 64 _ _ rd l h hall (by simp) (by simp)
  have h' := h
  rw [List.range_eq_range'] at h' hall
  obtain ⟨more, e⟩ := gather_range s.objs (fun id => (U id).isSome = true) (fun id hid => use_of hO id hid) [] np 64 0 [] (idsTs xs) rd l rfl h' hall (by simp)
  refine ⟨_, rfl, g2, fun id hid => ?_, ?_, fun id hid => ?_⟩
  · obtain ⟨p, hp, rfl⟩ := List.mem_map.1 hid
    exact (g1 p hp).2
  · rw [List.map_map]
    exact List.map_congr_left fun p hp => by simp [(g1 p hp).1]
  · rw [e, Nat.zero_add, List.getElem?_append_left (by simpa using hid)]
    simp [hid]

theorem far_name {m : List Nat} {objs : Nat → Obj} {np : Nat} (hid : ∀ id, id < np → m[id]? = some id) : Far np w β U objs w (nameB m β) (nameU m U) (objsOf (m.map fun id => renO (place m) (objs id))) :=
  ⟨WStep.refl _ _, fun x _ h => by obtain ⟨id, o, _, ha, hb⟩ := own_part h; exact ⟨id, o, ha, hb⟩, fun id h => by simp [nameB, hid id h], fun id h => by simp [nameU, hid id h]⟩

theorem assoc_rel {ZZ : Nat → Prop} {β' : Beta} {U' : Nat → Option Nat} {g : Nat → TV} : ∀ (live : List Nat) (t : Nat) (v : Value), (∀ t, t ∈ live → RelT w ZZ β' U' (g t) ((fun t => a.tmps.getD t undef) t)) → v = a.tmps.getD t undef → RelT w ZZ β' U' (assoc (live.zip (live.map g)) t) v
  | [], _, _, _, _ => trivial
  | x :: live, t, v, h, hv => by
    simp only [List.map_cons, List.zip_cons_cons, assoc, beq_if]
    by_cases e : t = x
    · subst e; rw [if_pos rfl, hv]; exact h t (by simp)
    · rw [if_neg e]; exact assoc_rel live t v (fun t ht => h t (by simp [ht])) hv

theorem cut_full (h : Rel ds w a Z β U s) {live : List Nat} {rd : List Nat} {v : List TV × List Obj} (hv : (cutSt live s).Runs s.objs rd v) : ∃ β' U', Rel ds w a Z β' U' (laySt live v.1 v.2 s.nt s.np) ∧ Far s.np w β U s.objs w β' U' (objsOf v.2) ∧ ∀ id, id < v.2.length → (U' id).isSome = true := by
  obtain ⟨_, _, l, hg, h2, _⟩ := Prog.runs_bind _ _ hv
  obtain ⟨rfl, _⟩ := h2
  obtain ⟨m, hm, hn, hu, he, hid⟩ := gather_all h.objs h.np (fun x hx => by
    obtain ⟨t, _, rfl⟩ := List.mem_map.1 hx
    exact ⟨_, h.slots t⟩) hg
  rw [← hm, he]
  obtain ⟨p1, p2⟩ := part_ok (Z' := Z) h.objs hn hu (fun b q => .inl q) (fun b hb id o _ ha hq => h.objs.apart b hb ⟨id, o, ha, hq⟩)
  refine ⟨nameB m β, nameU m U, ⟨fun t => ?_, p1, h.size, h.defers, fun id hid' => ?_, fun id hid' => ?_⟩, far_name hid, fun id hid' => ?_⟩
  · simp only [laySt]
    rw [renTs_eq, List.map_map]
    exact assoc_rel live t _ (fun t _ => RelT.ren (names_place m β U) (fun b _ q => p2 b q) _ _ (h.slots t)) rfl
  · simp only [laySt, List.length_map]
    simp only [nameU] at hid'
    cases hj : m[id]? with
    | none => rw [hj] at hid'; cases hid'
    | some q => exact (List.getElem?_eq_some_iff.1 hj).1
  · simp only [nameU, hid id hid', Option.bind_some]
    exact h.np id hid'
  · rw [List.length_map] at hid'
    simp only [nameU, List.getElem?_eq_getElem hid', Option.bind_some]
    exact hu _ (List.getElem_mem hid')
theorem cut_state (h : Rel ds w a Z β U s) {live : List Nat} {rd : List Nat} {v : List TV × List Obj} (hv : (cutSt live s).Runs s.objs rd v) : ∃ β' U', Rel ds w a Z β' U' (laySt live v.1 v.2 s.nt s.np) ∧ Far s.np w β U s.objs w β' U' (objsOf v.2) := by
  obtain ⟨β', U', h1, h2, _⟩ := cut_full h hv
  exact ⟨β', U', h1, h2⟩

/-! The walk. -/
def Out (ds : List Deferred) (Z : Nat → Prop) (w : World) (β : Beta) (U : Nat → Option Nat) (s : St) {R : Type} (K : TExit → St → Option R) (r : R) (e : Exit) (a' : Act) (w' : World) : Prop :=
  ∃ te s' β' U' Ds, e = te.of ∧ K te s' = some r ∧ Rel (Ds.map mark ++ ds) w' a' Z β' U' s' ∧ Far s.np w β U s.objs w' β' U' s'.objs ∧ s'.nt = s.nt ∧ s'.np = s.np ∧ Marks w w' (own s'.objs β') Ds

theorem Out.from {R : Type} {K : TExit → St → Option R} {r : R} {e : Exit} {a' : Act} {w1 w' : World} {β1 : Beta} {U1 : Nat → Option Nat} {s1 : St} {D1 : List Nat} (hf : Far s.np w β U s.objs w1 β1 U1 s1.objs) (h1 : s1.nt = s.nt) (h2 : s1.np = s.np)
    (hm : Marks w w1 (own s1.objs β1) D1) (h : Out (D1.map mark ++ ds) Z w1 β1 U1 s1 K r e a' w') : Out ds Z w β U s K r e a' w' := by
  obtain ⟨te, s', β', U', Ds, q1, q2, q3, q4, q5, q6, q7⟩ := h
  rw [h2] at q4
  refine ⟨te, s', β', U', Ds ++ D1, q1, q2, ?_, hf.trans q4, q5.trans h1, q6.trans h2, hm.trans hf.step.size q4 q7⟩
  rw [List.map_append, List.append_assoc]; exact q3
theorem Out.from0 {R : Type} {K : TExit → St → Option R} {r : R} {e : Exit} {a' : Act} {w' : World} {s1 : St} (h0 : s1.objs = s.objs) (h1 : s1.nt = s.nt) (h2 : s1.np = s.np)
    (h : Out ds Z w β U s1 K r e a' w') : Out ds Z w β U s K r e a' w' := by
  obtain ⟨te, s', β', U', Ds, q1, q2, q3, q4, q5, q6, q7⟩ := h
  rw [h2, h0] at q4
  exact ⟨te, s', β', U', Ds, q1, q2, q3, q4, q5.trans h1, q6.trans h2, q7⟩

theorem piece_ok {R : Type} {c : Code} {p : Piece} (hp : PieceOK P ρ s.nt c p) {K : TExit → St → Option R} {r : R} (h : viaPiece p s K = some r) (hR : Rel ds w a Z β U s) : c.wpIn (FW ρ) nf P (Out ds Z w β U s K r) a w := by
  obtain ⟨rd, v, hv, h⟩ := Prog.runs_of_run _ _ _ _ _ h
  obtain ⟨β1, U1, h1, h2, h3⟩ := cut_full hR hv
  refine wpIn_mono (hp ds nf R v.1 v.2 _ r s.np h w a Z β1 U1 h1 h3) fun e a' w' ⟨te, vals', objs', β', U', Ds, q1, q2, q3, q4, q5⟩ => ?_
  exact ⟨te, _, β', U', Ds, q1, q2, q3, h2.trans q4, rfl, rfl, q5⟩

theorem evC_ok (hE : EnvOK P E) (hcall : ∀ R, CallOK P (call R)) {fid : Nat} {R : Type} {r : R} : ∀ (c : Code) (ds : List Deferred) (s : St) (K : TExit → St → Option R) (w : World) (a : Act) (β : Beta) (U : Nat → Option Nat), PiecesOK P E ρ fid s.nt c → evC E call fid c s K = some r → Rel ds w a Z β U s → c.wpIn (FW ρ) nf P (Out ds Z w β U s K r) a w
  | .skip, ds, s, K, w, a, β, U, _, h, hR => wpIn_skip ⟨.normal, s, β, U, [], rfl, h, hR, Far.refl _ _ _ _ _, rfl, rfl, Marks.nil _ _ _⟩
  | .label _, ds, s, K, w, a, β, U, _, h, hR => wpIn_label ⟨.normal, s, β, U, [], rfl, h, hR, Far.refl _ _ _ _ _, rfl, rfl, Marks.nil _ _ _⟩
  | .exit id, ds, s, K, w, a, β, U, _, h, hR => wpIn_exit ⟨.exit id, s, β, U, [], rfl, h, hR, Far.refl _ _ _ _ _, rfl, rfl, Marks.nil _ _ _⟩
  | .goto l, ds, s, K, w, a, β, U, _, h, hR => wpIn_goto ⟨.goto l, s, β, U, [], rfl, h, hR, Far.refl _ _ _ _ _, rfl, rfl, Marks.nil _ _ _⟩
  | .ret, ds, s, K, w, a, β, U, _, h, hR => wpIn_ret ⟨.ret, s, β, U, [], rfl, h, hR, Far.refl _ _ _ _ _, rfl, rfl, Marks.nil _ _ _⟩
  | .region id ops draw, ds, s, K, w, a, β, U, _, h, hR => by
    have hM : Mid ds w a Z β U { s with nxt := s.nxt + 32 * ops.size } (fun id => id < s.nxt) := hR.mid.again rfl rfl (.inr ⟨rfl, rfl⟩)
    cases draw with
    | false =>
      have h : evOps E (call R) ops s.nxt 0 ops.toList { s with nxt := s.nxt + 32 * ops.size } (fun s => K .normal s) = some r := h
      refine wpIn_region_list (evOps_ok hE.T (hcall R) ops s.nxt _ r ops.toList 0 _ _ w a β U h (by simpa using hM) fun s' w' a' β' U' q1 q2 q3 q4 => ?_)
      refine ⟨.normal, s', β', U', [], rfl, q1, Mid.rel (q2.mono fun id hid => ?_), q3, q4.nt, q4.np, Marks.nil _ _ _⟩
      rw [q4.nxt]; simpa using hid
    | true =>
      have h : evDraw E (semCall E R) ops s.nxt 0 ops.toList [] { s with nxt := s.nxt + 32 * ops.size } (fun log s' => bif drawOk ops s.nxt log.reverse then K .normal s' else none) = some r := h
      rw [semCall_once hE] at h
      refine wpIn_region_any hE.mixed (draw_ok (Kf := fun s' => K .normal s') hE.T (semCall_ok hE) h (fun log s' hk => ?_) hM.drew fun s' w' a' β' U' q1 q2 q3 q4 => ?_)
      · cases hd : drawOk ops s.nxt log.reverse with
        | false => rw [hd] at hk; cases hk
        | true => rw [hd] at hk; exact ⟨rfl, hk⟩
      · refine ⟨.normal, s', β', U', [], rfl, q1, Mid.rel (q2.mono fun id hid => ?_), ?_, q4.nt, q4.np, Marks.nil _ _ _⟩
        · rw [q4.nxt]; exact hid
        · exact Far.trans ⟨(drew_step w).mono (fun _ _ q => q.elim), fun _ _ q => q, fun _ _ => rfl, fun _ _ => rfl⟩ q3
  | .seq c d, ds, s, K, w, a, β, U, hp, h, hR => by
    refine wpIn_seq (wpIn_mono (evC_ok hE hcall c ds s _ w a β U hp.1 h hR) fun e a' w' ⟨te, s', β', U', Ds, q1, q2, q3, q4, q5, q6, q7⟩ => ?_)
    subst q1
    cases te with
    | normal =>
      refine wpIn_mono (evC_ok hE hcall d _ s' K w' a' β' U' (by rw [q5]; exact hp.2) q2 q3) fun e a2 w2 h2 => h2.from q4 q5 q6 q7
    | exit i => exact ⟨.exit i, s', β', U', Ds, rfl, q2, q3, q4, q5, q6, q7⟩
    | goto i => exact ⟨.goto i, s', β', U', Ds, rfl, q2, q3, q4, q5, q6, q7⟩
    | ret => exact ⟨.ret, s', β', U', Ds, rfl, q2, q3, q4, q5, q6, q7⟩
  | .cond c x y, ds, s, K, w, a, β, U, hp, h, hR => by
    simp only [evC] at h
    cases hpc : E.piece fid (condKey c) with
    | some p => rw [hpc] at h; exact piece_ok (hp.1 p hpc) h hR
    | none =>
      rw [hpc] at h
      obtain ⟨b, hb, h⟩ := Option.bind_eq_some_iff.1 h
      have hcv := asB_ok (ev_rel hR.slots c) hb
      have href : ∀ b', a.eval c = .bool b' → Rel ds w a Z β U (refine s c b') ∧ (refine s c b').objs = s.objs ∧ (refine s c b').nt = s.nt ∧ (refine s c b').np = s.np := fun b' hb' => by
        cases c with
        | tmp t =>
          refine ⟨Mid.rel ?_, rfl, rfl, rfl⟩
          exact (hR.mid.refine (g := t) (b := b') hb')
        | _ => exact ⟨hR, rfl, rfl, rfl⟩
      cases b with
      | true =>
        obtain ⟨r1, r2, r3, r4⟩ := href true hcv
        exact wpIn_cond_true hcv (wpIn_mono (evC_ok hE hcall x ds _ K w a β U (by rw [r3]; exact hp.2.1) h r1) fun e a' w' h2 => h2.from0 r2 r3 r4)
      | false =>
        obtain ⟨r1, r2, r3, r4⟩ := href false hcv
        exact wpIn_cond_false hcv (wpIn_mono (evC_ok hE hcall y ds _ K w a β U (by rw [r3]; exact hp.2.2) h r1) fun e a' w' h2 => h2.from0 r2 r3 r4)
  | .block id c, ds, s, K, w, a, β, U, hp, h, hR => by
    refine wpIn_block (wpIn_mono (evC_ok hE hcall c ds s _ w a β U hp h hR) fun e a' w' ⟨te, s', β', U', Ds, q1, q2, q3, q4, q5, q6, q7⟩ => ?_)
    subst q1
    cases te with
    | normal => exact ⟨.normal, s', β', U', Ds, rfl, q2, q3, q4, q5, q6, q7⟩
    | goto i => exact ⟨.goto i, s', β', U', Ds, rfl, q2, q3, q4, q5, q6, q7⟩
    | ret => exact ⟨.ret, s', β', U', Ds, rfl, q2, q3, q4, q5, q6, q7⟩
    | exit j =>
      have q2 : (bif Nat.beq j id then K .normal s' else K (.exit j) s') = some r := q2
      simp only [TExit.of, Exit.inBlock]
      cases hj : Nat.beq j id with
      | true =>
        rw [hj] at q2
        rw [if_pos (Nat.eq_of_beq_eq_true hj)]
        exact ⟨.normal, s', β', U', Ds, rfl, q2, q3, q4, q5, q6, q7⟩
      | false =>
        rw [hj] at q2
        rw [if_neg (fun e => by subst e; simp at hj)]
        exact ⟨.exit j, s', β', U', Ds, rfl, q2, q3, q4, q5, q6, q7⟩
  | .loop c, ds, s, K, w, a, β, U, hp, h, hR => by
    simp only [evC] at h
    cases hpc : E.piece fid (2 * firstReg c) with
    | some p => rw [hpc] at h; exact piece_ok (hp p hpc) h hR
    | none => rw [hpc] at h; cases h
  | .rangeFunc g ps b c, ds, s, K, w, a, β, U, hp, h, hR => by
    simp only [evC] at h
    cases hpc : E.piece fid (2 * firstReg c) with
    | some p => rw [hpc] at h; exact piece_ok (hp p hpc) h hR
    | none => rw [hpc] at h; cases h
  | .scope c, ds, s, K, w, a, β, U, hp, h, hR => by
    simp only [evC] at h
    cases hpc : E.piece fid (scopeKey c) with
    | some p => rw [hpc] at h; exact piece_ok (hp p hpc) h hR
    | none => rw [hpc] at h; cases h
  | .refuse _, _, _, _, _, _, _, _, _, h, _ => by simp [evC] at h
end
end Go.Te
set_option linter.unusedVariables false
set_option linter.unusedSimpArgs false
namespace Go.Te
open Go.RowKit

/-! ### 40b. What is no cells may turn -/
/-- Blocks of cells lie as they lay. -/
def Calm (w w' : World) : Prop := w.heap.size ≤ w'.heap.size ∧ ∀ (b : Nat) c e z, w.heap[b]? = some (Go.Obj.cells c e z) → w'.heap[b]? = w.heap[b]?

theorem Calm.cell {w w' : World} (h : Calm w w') {a : Addr} {v : Value} (hc : w.cell? a = some v) : w'.cell? a = some v := by
  have hc' := hc
  unfold World.cell? at hc
  split at hc
  · rename_i hh
    rw [World.cell?_of_block (h.2 _ _ _ _ hh)]; exact hc'
  · cases hc
theorem Calm.shape {w w' : World} (h : Calm w w') {b : Nat} {x : TypeId × Nat} (hc : w.shape? b = some x) : w'.shape? b = some x := by
  unfold World.shape? at hc ⊢
  split at hc
  · rename_i hh
    rw [h.2 _ _ _ _ hh, hh]; exact hc
  · cases hc

mutual
theorem RelL.calm {w w' : World} {Z : Nat → Prop} (h : Calm w w') : ∀ (l : Leaf) (x : l.T) (v : Value), RelL w Z l x v → RelL w' Z l x v
  | .int _, _, _, r => by simp only [RelL] at r ⊢; exact r
  | .bool, _, _, r => by simp only [RelL] at r ⊢; exact r
  | .str, _, _, r => by simp only [RelL] at r ⊢; exact r
  | .sl es, xs, v, r => by
    simp only [RelL] at r ⊢
    obtain ⟨a, cap, hv, hc, hr⟩ := r
    refine ⟨a, cap, hv, hc, fun hne => ?_⟩
    obtain ⟨b, off, ha, hnz, hlt, hx⟩ := hr hne
    exact ⟨b, off, ha, hnz, Nat.lt_of_lt_of_le hlt h.1, fun i x hi => RelRow.calm h es x b _ (hx i x hi)⟩
theorem RelRow.calm {w w' : World} {Z : Nat → Prop} (h : Calm w w') : ∀ (es : List Leaf) (x : Row es) (b o : Nat), RelRow w Z es x b o → RelRow w' Z es x b o
  | [], _, _, _, _ => trivial
  | [l], x, b, o, r => by
    simp only [RelRow] at r ⊢
    obtain ⟨v, hv, hr⟩ := r
    exact ⟨v, h.cell hv, RelL.calm h l x v hr⟩
  | l :: l' :: ls, x, b, o, r => by
    simp only [RelRow] at r ⊢
    obtain ⟨⟨v, hv, hr⟩, hs⟩ := r
    exact ⟨⟨v, h.cell hv, RelL.calm h l x.1 v hr⟩, RelRow.calm h (l' :: ls) x.2 b (o + 1) hs⟩
end
mutual
theorem RelT.calm {w w' : World} {Z : Nat → Prop} {β : Beta} {U : Nat → Option Nat} (h : Calm w w') : ∀ (t : TV) (v : Value), RelT w Z β U t v → RelT w' Z β U t v
  | .dead, _, _ => trivial
  | .d l x, v, r => by simp only [RelT] at r ⊢; exact RelL.calm h l x v r
  | .nil, _, r => r
  | .agg xs, v, r => by
    simp only [RelT] at r ⊢
    obtain ⟨vs, hv, hr⟩ := r
    exact ⟨vs, hv, RelTs.calm h xs _ hr⟩
  | .tup xs, v, r => by
    simp only [RelT] at r ⊢
    obtain ⟨vs, hv, hr⟩ := r
    exact ⟨vs, hv, RelTs.calm h xs _ hr⟩
  | .ptr id off, v, r => r
  | .eptr id k i j, v, r => r
  | .dptr es x j, v, r => by
    simp only [RelT] at r ⊢
    obtain ⟨b, o, hnz, hlt, hv, hr⟩ := r
    exact ⟨b, o, hnz, Nat.lt_of_lt_of_le hlt h.1, hv, RelRow.calm h es x b o hr⟩
  | .arr id k m, v, r => by
    simp only [RelT] at r ⊢
    obtain ⟨⟨L, hL, hm⟩, r⟩ := r
    refine ⟨⟨L, hL, hm⟩, ?_⟩
    rcases r with r | ⟨b, cap, e, s, hb, hv, hc, hm, hs, hl⟩
    · exact .inl r
    · exact .inr ⟨b, cap, e, s, hb, hv, hc, hm, h.shape hs, hl⟩
  | .arrF id k, v, r => by
    simp only [RelT] at r ⊢
    obtain ⟨L, hL, r⟩ := r
    refine ⟨L, hL, ?_⟩
    rcases r with r | ⟨b, cap, e, s, hb, hv, hc, hm, hs, hl⟩
    · exact .inl r
    · exact .inr ⟨b, cap, e, s, hb, hv, hc, hm, h.shape hs, hl⟩
  | .fn f caps, v, r => by
    simp only [RelT] at r ⊢
    obtain ⟨vs, hv, hr⟩ := r
    exact ⟨vs, hv, RelTs.calm h caps _ hr⟩
  | .raw u, _, r => r
theorem RelTs.calm {w w' : World} {Z : Nat → Prop} {β : Beta} {U : Nat → Option Nat} (h : Calm w w') : ∀ (ts : List TV) (vs : List Value), RelTs w Z β U ts vs → RelTs w' Z β U ts vs
  | [], _, r => r
  | t :: ts, vs, r => by
    simp only [RelTs] at r ⊢
    obtain ⟨v, vs', hv, h1, h2⟩ := r
    exact ⟨v, vs', hv, RelT.calm h t v h1, RelTs.calm h ts vs' h2⟩
end

/-- It lies in cells. -/
def Obj.solid : Obj → Bool
  | .box [] => false
  | _ => true

theorem RelObj.cells {w : World} {Z : Nat → Prop} {β : Beta} {U : Nat → Option Nat} {id : Nat} {o : Obj} (hs : o.solid = true) (ha : o.alive = true) (h : RelObj w Z β U id o) {b p : Nat} (hb : β id = some (b, p)) :
    ∃ c e z, w.heap[b]? = some (Go.Obj.cells c e z) := by
  cases o with
  | dead => cases ha
  | box cells =>
    cases cells with
    | nil => cases hs
    | cons t ts =>
      obtain ⟨b', o', hb', _, _, hc⟩ := h
      rw [hb] at hb'
      cases hb'
      obtain ⟨v, hv, _⟩ := hc 0 t rfl
      unfold World.cell? at hv
      split at hv
      · rename_i hh; exact ⟨_, _, _, hh⟩
      · cases hv
  | arr e es xs =>
    obtain ⟨_, ⟨_, hn⟩ | ⟨b', cur, hb', hh, _⟩⟩ := h
    · rw [hb] at hn; cases hn
    · rw [hb] at hb'; cases hb'; exact ⟨_, _, _, hh⟩

theorem RelObj.calm {w w' : World} {Z : Nat → Prop} {β : Beta} {U : Nat → Option Nat} {id : Nat} {o : Obj} (hw : Calm w w') (hs : o.alive = true → ∀ b p, β id = some (b, p) → w'.heap[b]? = w.heap[b]?) (h : RelObj w Z β U id o) : RelObj w' Z β U id o := by
  cases o with
  | dead => trivial
  | box cells =>
    obtain ⟨b, o, hb, hlt, hf, hc⟩ := h
    refine ⟨b, o, hb, Nat.lt_of_lt_of_le hlt hw.1, fun p => ?_, fun i t ht => ?_⟩
    · rw [World.frozen?_of_block (hs rfl b o hb)]; exact hf p
    · obtain ⟨v, hv, hr⟩ := hc i t ht
      exact ⟨v, hw.cell hv, RelT.calm hw t v hr⟩
  | arr e es xs =>
    obtain ⟨hu, h⟩ := h
    refine ⟨hu, h.imp (fun q => q) fun ⟨b, cur, hb, hh, hx⟩ => ⟨b, cur, hb, ?_, fun i x hi => RelRow.calm hw es x b _ (hx i x hi)⟩⟩
    rw [hs rfl b 0 hb]; exact hh

theorem RelO.calm {w w' : World} {Z : Nat → Prop} {β : Beta} {U : Nat → Option Nat} {objs : Nat → Obj} (hw : Calm w w') (hs : ∀ b, own objs β b → w'.heap[b]? = w.heap[b]?) (h : RelO w Z β U objs) : RelO w' Z β U objs :=
  ⟨fun id => RelObj.calm hw (fun ha b p hb => hs b ⟨id, p, ha, hb⟩) (h.obj id), h.inj, h.lim, fun b hb => Nat.lt_of_lt_of_le (h.zlt b hb) hw.1, h.apart⟩
theorem Rel.calm {ds : List Deferred} {w w' : World} {a : Act} {Z : Nat → Prop} {β : Beta} {U : Nat → Option Nat} {s : St} (hw : Calm w w') (hs : ∀ b, own s.objs β b → w'.heap[b]? = w.heap[b]?) (h : Rel ds w a Z β U s) : Rel ds w' a Z β U s :=
  ⟨fun t => RelT.calm hw _ _ (h.slots t), h.objs.calm hw hs, h.size, h.defers, h.nxt, h.np⟩

theorem solid_objsOf {objs : List Obj} (h : objs.all Obj.solid = true) (id : Nat) : (objsOf objs id).solid = true := by
  unfold objsOf
  cases hx : objs[id]? with
  | none => rfl
  | some o => exact List.all_eq_true.1 h o (List.mem_of_getElem? hx)

theorem own_cells {w : World} {Z : Nat → Prop} {β : Beta} {U : Nat → Option Nat} {objs : List Obj} (hs : objs.all Obj.solid = true) (hO : RelO w Z β U (objsOf objs)) {b : Nat} (h : own (objsOf objs) β b) : ∃ c e z, w.heap[b]? = some (Go.Obj.cells c e z) := by
  obtain ⟨id, o, ha, hb⟩ := h
  exact RelObj.cells (solid_objsOf hs id) ha (hO.obj id) hb

/-- A block that is no cells turns. -/
theorem calm_put {w : World} {r : Nat} {o : Go.Obj} (o' : Go.Obj) (h : w.heap[r]? = some o) (ho : o.isCells = false) : Calm w (w.putObj r o') := by
  refine ⟨by simp [World.putObj], fun b c e z hb => ?_⟩
  by_cases hbr : b = r
  · subst hbr; rw [h] at hb; cases hb; cases ho
  · exact World.putObj_heap_other hbr
theorem calm_grown {w w' : World} {row : Option Nat} (hg : w.grownBy w' row) (hr : ∀ r, row = some r → ∃ o : Go.Obj, w.heap[r]? = some o ∧ o.isCells = false) : Calm w w' :=
  ⟨hg.size, fun b c e z hb => grownBy_keeps_cells hg hr hb rfl⟩
theorem Calm.refl (w : World) : Calm w w := ⟨Nat.le_refl _, fun _ _ _ _ _ => rfl⟩
theorem Calm.trans {a b c : World} (h : Calm a b) (k : Calm b c) : Calm a c :=
  ⟨Nat.le_trans h.1 k.1, fun x y e z hx => by
    have h1 := h.2 x y e z hx
    rw [k.2 x y e z (h1.trans hx), h1]⟩

/-- A part's world may so turn, beyond the part's begin. -/
theorem Far.late {np : Nat} {w w' w2 : World} {β β' : Beta} {U U' : Nat → Option Nat} {objs objs' : Nat → Obj} (h : Far np w β U objs w' β' U' objs') (hs : WStep (fun b => w.heap.size ≤ b) w' w2) : Far np w β U objs w2 β' U' objs' :=
  ⟨h.step.trans hs (fun x hx q => by omega), h.own, h.le, h.sub⟩
end Go.Te
set_option linter.unusedVariables false
set_option linter.unusedSimpArgs false
namespace Go.Te
open Go.RowKit

/-! ### 41. Loops, branches that meet, functions -/
section
variable {ds : List Deferred} {ρ : Option Nat} {nf : Nat} {P : Program} {E : Env} {call : (R : Type) → Nat → List TV → List Obj → (TV → List Obj → Option R) → Option R} {Z : Nat → Prop} {w : World} {a : Act} {β : Beta} {U : Nat → Option Nat} {s : St}

def Ends (ds : List Deferred) (Z : Nat → Prop) (w : World) (β : Beta) (U : Nat → Option Nat) (objs : List Obj) (p : Piece) (nt np : Nat) (res : TExit × List TV × List Obj) (e : Exit) (a' : Act) (w' : World) : Prop :=
  ∃ β' U' Ds, e = res.1.of ∧ Rel (Ds.map mark ++ ds) w' a' Z β' U' (laySt (p.outs res.1) res.2.1 res.2.2 nt np) ∧ Far np w β U (objsOf objs) w' β' U' (objsOf res.2.2) ∧ Marks w w' (own (objsOf res.2.2) β') Ds

theorem Marks.less {w w' : World} {o o' : Nat → Prop} {Ds : List Nat} (h : Marks w w' o Ds) (ho : ∀ b, b < w'.heap.size → o' b → o b) : Marks w w' o' Ds :=
  ⟨h.1, fun D hD => ⟨(h.2 D hD).1, (h.2 D hD).2.1, fun q => (h.2 D hD).2.2 (ho D (Array.getElem?_eq_some_iff.1 (h.2 D hD).2.1).1 q)⟩⟩

theorem ends_of {p : Piece} {nt np : Nat} {objs : List Obj} {s0 s' : St} {te : TExit} {res : TExit × List TV × List Obj} {w' : World} {a' : Act} {β' : Beta} {U' : Nat → Option Nat} {Ds : List Nat}
    (h : (cutSt (p.outs te) s').run s'.objs [] (fun _ v => some (te, v.1, v.2)) = some res) (hR : Rel (Ds.map mark ++ ds) w' a' Z β' U' s') (hF : Far np w β U (objsOf objs) w' β' U' s'.objs) (h1 : s'.nt = nt) (h2 : s'.np = np) (hm : Marks w w' (own s'.objs β') Ds) :
    Ends ds Z w β U objs p nt np res te.of a' w' := by
  obtain ⟨rd, v, hv, h⟩ := Prog.runs_of_run _ _ _ _ _ h
  cases h
  obtain ⟨β2, U2, q1, q2⟩ := cut_state hR hv
  subst h1; subst h2
  exact ⟨β2, U2, Ds, rfl, q1, hF.trans q2, hm.less fun b hb q => q2.own b hb q⟩

theorem loop_ok (hE : EnvOK P E) (hcall : ∀ R, CallOK P (call R)) {fid nt np : Nat} {body : Code} {p : Piece} (hp : PiecesOK P E ρ fid nt body) : ∀ (n : Nat) (vals : List TV) (objs : List Obj) (res : TExit × List TV × List Obj),
    evLoop E call fid nt np body p n vals objs = some res → ∀ (ds : List Deferred) (w : World) (a : Act) (β : Beta) (U : Nat → Option Nat), Rel ds w a Z β U (laySt p.ins vals objs nt np) → Code.roundsIn (FW ρ) nf P body (Ends ds Z w β U objs p nt np res) n a w
  | 0, _, _, _, h, _, _, _, _, _, _ => by simp [evLoop] at h
  | n + 1, vals, objs, res, h, ds, w, a, β, U, hR => by
    simp only [evLoop] at h
    rw [roundsIn_succ]
    refine wpIn_mono (evC_ok hE hcall body ds _ _ w a β U hp h hR) fun e a' w' ⟨te, s', β', U', Ds, q1, q2, q3, q4, q5, q6, q7⟩ => ?_
    subst q1
    cases te with
    | normal =>
      obtain ⟨rd, v, hv, q2⟩ := Prog.runs_of_run _ _ _ _ _ q2
      obtain ⟨β2, U2, c1, c2⟩ := cut_state q3 hv
      have q5 : s'.nt = nt := q5
      have q6 : s'.np = np := q6
      rw [q5, q6] at c1
      rw [q6] at c2
      have := loop_ok hE hcall hp n v.1 v.2 res q2 _ w' a' β2 U2 c1
      have hmono : ∀ (n : Nat) (a : Act) (w1 : World), Code.roundsIn (FW ρ) nf P body (Ends (Ds.map mark ++ ds) Z w' β2 U2 v.2 p nt np res) n a w1 → Code.roundsIn (FW ρ) nf P body (Ends ds Z w β U objs p nt np res) n a w1 := by
        intro n
        induction n with
        | zero => intro a w1 h; exact h
        | succ n ih =>
          intro a w1 h
          rw [roundsIn_succ] at h ⊢
          have lift : ∀ e a w1, Ends (Ds.map mark ++ ds) Z w' β2 U2 v.2 p nt np res e a w1 → Ends ds Z w β U objs p nt np res e a w1 := fun e a w1 ⟨β3, U3, D3, e1, e2, e3, e4⟩ =>
            ⟨β3, U3, D3 ++ Ds, e1, by rw [List.map_append, List.append_assoc]; exact e2, (q4.trans c2).trans e3, Marks.trans (q7.less fun b hb q => c2.own b hb q) q4.step.size e3 e4⟩
          refine wpIn_mono h fun e a w1 he => ?_
          cases e with
          | normal => exact ih a w1 he
          | _ => exact lift _ a w1 he
      exact hmono n a' w' this
    | exit i => exact ends_of (s0 := s') q2 q3 q4 q5 q6 q7
    | goto i => exact ends_of (s0 := s') q2 q3 q4 q5 q6 q7
    | ret => exact ends_of (s0 := s') q2 q3 q4 q5 q6 q7

/-- A loop's contract, from its rounds. -/
theorem piece_loop (hE : EnvOK P E) (hcall : ∀ R, CallOK P (call R)) {fid nt : Nat} {body : Code} {p : Piece} (hp : PiecesOK P E ρ fid nt body)
    (h : ∀ (R : Type) vals objs (K : TExit → List TV → List Obj → Option R) r np, p.run R np vals objs K = some r → ∃ n res, evLoop E call fid nt np body p n vals objs = some res ∧ K res.1 res.2.1 res.2.2 = some r) : PieceOK P ρ nt (.loop body) p := by
  intro ds nf R vals objs K r np hr w a Z β U hR _
  obtain ⟨n, res, h1, h2⟩ := h R vals objs K r np hr
  exact wpIn_mono (wpIn_loop_rounds n (loop_ok hE hcall hp n vals objs res h1 ds w a β U hR)) fun e a' w' ⟨β', U', Ds, q1, q2, q3, q4⟩ => ⟨res.1, res.2.1, res.2.2, β', U', Ds, q1, h2, q2, q3, q4⟩

theorem piece_if (hE : EnvOK P E) (hcall : ∀ R, CallOK P (call R)) {fid nt : Nat} {c : Operand} {x y : Code} {p : Piece} (hx : PiecesOK P E ρ fid nt x) (hy : PiecesOK P E ρ fid nt y)
    (h : ∀ (R : Type) vals objs (K : TExit → List TV → List Obj → Option R) r np, p.run R np vals objs K = some r → ∃ res, evIf E call fid nt np c x y p vals objs = some res ∧ K res.1 res.2.1 res.2.2 = some r) : PieceOK P ρ nt (.cond c x y) p := by
  intro ds nf R vals objs K r np hr w a Z β U hR _
  obtain ⟨res, h1, h2⟩ := h R vals objs K r np hr
  have h1' := h1
  unfold evIf at h1
  obtain ⟨b, hb, h1⟩ := Option.bind_eq_some_iff.1 h1
  have hcv := asB_ok (ev_rel hR.slots c) hb
  have href : ∀ b', a.eval c = .bool b' → Rel ds w a Z β U (refine (laySt p.ins vals objs nt np) c b') ∧ (refine (laySt p.ins vals objs nt np) c b').objs = objsOf objs ∧ (refine (laySt p.ins vals objs nt np) c b').nt = nt ∧ (refine (laySt p.ins vals objs nt np) c b').np = np := fun b' hb' => by
    cases c with
    | tmp t =>
      refine ⟨Mid.rel ?_, rfl, rfl, rfl⟩
      exact (hR.mid.refine (g := t) (b := b') hb')
    | _ => exact ⟨hR, rfl, rfl, rfl⟩
  have fin : ∀ (b' : Bool) (code : Code), a.eval c = .bool b' → PiecesOK P E ρ fid nt code → evC E call fid code (refine (laySt p.ins vals objs nt np) c b') (fun e s => (cutSt (p.outs e) s).run s.objs [] fun _ v => some (e, v.1, v.2)) = some res →
      code.wpIn (FW ρ) nf P (fun e a' w' => ∃ te vals' objs' β' U' Ds, e = te.of ∧ K te vals' objs' = some r ∧ Rel (Ds.map mark ++ ds) w' a' Z β' U' (laySt (p.outs te) vals' objs' nt np) ∧ Far np w β U (objsOf objs) w' β' U' (objsOf objs') ∧ Marks w w' (own (objsOf objs') β') Ds) a w := by
    intro b' code hcv hp h1
    obtain ⟨r1, r2, r3, r4⟩ := href b' hcv
    refine wpIn_mono (evC_ok hE hcall code ds _ _ w a β U (by rw [r3]; exact hp) h1 r1) fun e a' w' ⟨te, s', β', U', Ds, q1, q2, q3, q4, q5, q6, q7⟩ => ?_
    rw [r2, r4] at q4
    rw [r3] at q5
    rw [r4] at q6
    obtain ⟨β2, U2, D2, e1, e2, e3, e4⟩ := ends_of (s0 := s') (objs := objs) q2 q3 q4 q5 q6 q7
    exact ⟨res.1, res.2.1, res.2.2, β2, U2, D2, by rw [q1]; exact e1, h2, e2, e3, e4⟩
  cases b with
  | true => exact wpIn_cond_true hcv (fin true x hcv hx h1)
  | false => exact wpIn_cond_false hcv (fin false y hcv hy h1)

/-- One result. -/
def resOf (tmps : Array Value) : ResultVar → Sem Value
  | .tmp t => pure (tmps.getD t undef)
  | .cell x t => do loadVar t (← asAddr (tmps.getD x undef))
theorem results_eq (fn : Func) (tmps : Array Value) : results fn tmps = (do let vs ← fn.results.mapM (resOf tmps); pure (if h : vs.size = 1 then vs[0] else .tuple vs)) := by
  unfold results
  have : (fun x => match x with
    | .tmp t => pure (tmps.getD t undef)
    | .cell a t => do loadVar t (← asAddr (tmps.getD a undef)) : ResultVar → Sem Value) = resOf tmps := by
    funext x; cases x <;> rfl
  rw [← this]
  rfl
theorem results_ok (hT : TOk P E.T) (hR : Rel ds w a Z β U s) : ∀ (l : List ResultVar) (rd : List Nat) (vs : List TV), (resultsT E s l).Runs s.objs rd vs →
    ∃ us : List Value, (l.mapM (resOf a.tmps)).run P w = .ok us w ∧ RelTs w (zz s.objs β Z) β U vs us
  | [], rd, vs, h => by obtain ⟨rfl, _⟩ := h; exact ⟨[], by simp, rfl⟩
  | .tmp t :: l, rd, vs, h => by
    obtain ⟨_, _, r, hr, h, _⟩ := Prog.runs_bind _ _ h
    obtain ⟨rfl, _⟩ := h
    obtain ⟨us, h1, h2⟩ := results_ok hT hR l _ r hr
    refine ⟨a.tmps.getD t undef :: us, ?_, ?_⟩
    · rw [List.mapM_cons]
      simp only [resOf, Sem.run_bind, Sem.run_pure, Result.andThen_ok, h1]
    · simp only [RelTs]
      exact ⟨_, us, rfl, hR.slots t, h2⟩
  | .cell x t :: l, rd, vs, h => by
    obtain ⟨_, _, e, he, h, _⟩ := Prog.runs_bind _ _ h
    obtain ⟨_, _, r, hr, h, _⟩ := Prog.runs_bind _ _ h
    obtain ⟨rfl, _⟩ := h
    obtain ⟨us, h1, h2⟩ := results_ok hT hR l _ r hr
    obtain ⟨u, b, o, hv, hl, hrel, _⟩ := load_q hT hR.objs (hR.slots x) he
    refine ⟨u :: us, ?_, ?_⟩
    · rw [List.mapM_cons]
      simp only [Instr.loadAt, Instr.sureAddr, hv, Sem.run_bind, Sem.run_pure, Result.andThen_ok] at hl
      simp only [resOf, Sem.run_bind, asAddr, hv, Sem.run_pure, Result.andThen_ok, hl, h1]
    · simp only [RelTs]
      exact ⟨u, us, rfl, hrel, h2⟩

theorem one_rel {ZZ : Nat → Prop} {vs : List TV} {us : List Value} (h : RelTs w ZZ β U vs us) : RelT w ZZ β U (one vs) (if h : us.toArray.size = 1 then us.toArray[0] else .tuple us.toArray) := by
  match vs, us, h with
  | [], us, h =>
    simp only [RelTs] at h
    subst h
    simp only [one, RelT]
    exact ⟨#[], rfl, rfl⟩
  | [x], us, h =>
    simp only [RelTs] at h
    obtain ⟨v, vs', rfl, h1, rfl⟩ := h
    simpa [one] using h1
  | x :: y :: vs, us, h =>
    have hl := relTs_len h
    have hne : us.toArray.size ≠ 1 := by simp at hl ⊢; omega
    rw [dif_neg hne]
    simp only [one, RelT]
    exact ⟨us.toArray, rfl, h⟩

theorem results_run (hT : TOk P E.T) (hR : Rel ds w a Z β U s) {fn : Func} {rd : List Nat} {vs : List TV} (h : (resultsT E s fn.results.toList).Runs s.objs rd vs) :
    ∃ us : List Value, (results fn a.tmps).run P w = .ok (if h : us.toArray.size = 1 then us.toArray[0] else .tuple us.toArray) w ∧ RelTs w (zz s.objs β Z) β U vs us := by
  obtain ⟨us, h1, h2⟩ := results_ok hT hR _ rd vs h
  refine ⟨us, ?_, h2⟩
  rw [results_eq, Array.mapM_eq_mapM_toList]
  simp [h1]

theorem evFn_ok (hE : EnvOK P E) (hcall : ∀ R, CallOK P (call R)) {f : Nat} {fn : Func} (hf : P.funcs[f]? = some fn) (hp : ∀ c, fn.body = some c → PiecesOK P E none f fn.ntmps c) {R : Type} {args : List TV} {objs : List Obj} {K : TV → List Obj → Option R} {r : R}
    (h : evFn E call f fn args objs K = some r) {vs : Array Value} (hen : Entry w Z β U args vs objs) :
    Calls P f vs w fun e w' => ∃ v rv robjs, e = .returned v ∧ K rv robjs = some r ∧ Told w Z β U objs w' v rv robjs := by
  unfold evFn at h
  obtain ⟨c, hc, h⟩ := Option.bind_eq_some_iff.1 h
  cases hle : Nat.ble args.length fn.ntmps with
  | false => rw [hle] at h; cases h
  | true =>
  rw [hle] at h
  simp only [cond_true] at h
  rw [Nat.ble_eq] at hle
  have hlen := relTs_len hen.vals
  have hsz : vs.size ≤ fn.ntmps := by simp at hlen; omega
  have hR : Rel [] w { tmps := vs ++ Array.replicate (fn.ntmps - vs.size) undef, defers := [] } Z β U { slots := slotsOf args, objs := objsOf objs, nxt := objs.length, nt := fn.ntmps, np := objs.length } := by
    refine ⟨fun t => ?_, hen.obs, by simp; omega, rfl, fun id hid => (hen.use id).1 hid, fun id hid => (hen.use id).2 hid⟩
    simp only [slotsOf]
    cases hx : args[t]? with
    | none => trivial
    | some x =>
      obtain ⟨v, hv, hr⟩ := relTs_get hen.vals t x hx
      have hv' : vs[t]? = some v := by simpa using hv
      have : (vs ++ Array.replicate (fn.ntmps - vs.size) undef).getD t undef = v := by
        rw [Array.getD_eq_getD_getElem?, Array.getElem?_append_left (Array.getElem?_eq_some_iff.1 hv').1, hv']
        rfl
      rw [this]
      exact hr
  have fin : ∀ (a' : Act) (w' : World) (s' : St) (β' : Beta) (U' : Nat → Option Nat), evEnd E f fn objs K s' = some r → Rel [] w' a' Z β' U' s' → Far objs.length w β U (objsOf objs) w' β' U' s'.objs → s'.np = objs.length →
      a'.defers = [] ∧ ∃ v, (results fn a'.tmps).run P w' = .ok v w' ∧ ∃ v' rv robjs, Ending.returned v = .returned v' ∧ K rv robjs = some r ∧ Told w Z β U objs w' v' rv robjs := by
    intro a' w' s' β' U' h hR' hF hnp
    refine ⟨hR'.defers, ?_⟩
    unfold evEnd at h
    obtain ⟨rd, us, hus, h⟩ := Prog.runs_of_run _ _ _ _ _ h
    obtain ⟨vals, hrun, hrel⟩ := results_run hE.T hR' hus
    refine ⟨_, hrun, ?_⟩
    cases hk : (E.keeps f || E.byHand f) with
    | true =>
      rw [hk] at h
      simp only [cond_true] at h
      obtain ⟨rd2, p, hp, h⟩ := Prog.runs_of_run _ _ _ _ _ h
      obtain ⟨rd3, l, hg, h⟩ := Prog.runs_of_run _ _ _ _ _ h
      have hkk := killed_kill s'.objs p.2
      have hOk := hR'.objs.kill hkk.each
      have hrelk := closeTs_ok hR'.objs us vals _ p hrel hp hkk
      obtain ⟨m, hm, hn, hu, he, hid⟩ := gather_all (s := { s' with objs := updO s'.objs (kill p.2) }) hOk (by rw [← hnp]; exact hR'.np) (fun x hx => by
        obtain ⟨i, hi⟩ := List.getElem?_of_mem hx
        obtain ⟨v, _, hv⟩ := relTs_get hrelk i x hi
        exact ⟨v, hv⟩) hg
      rw [← hm, he] at h
      obtain ⟨p1, p2⟩ := part_ok (Z' := Z) hOk hn hu (fun b q => .inl q) (fun b hb id o _ ha hq => hOk.apart b hb ⟨id, o, ha, hq⟩)
      have hFk : Far objs.length w β U (objsOf objs) w' β' U' (updO s'.objs (kill p.2)) := ⟨hF.step, fun x hx q => hF.own x hx (by
        obtain ⟨id, o, ha, hb⟩ := q
        exact ⟨id, o, (by rcases hkk.each id with h | h <;> rw [h] at ha <;> first | exact ha | cases ha), hb⟩), hF.le, hF.sub⟩
      refine ⟨_, _, _, rfl, h, nameB m β', nameU m U', one_rel (RelTs.ren (names_place m β' U') (fun b _ q => p2 b q) p.1 _ hrelk), p1, hFk.trans (far_name hid), fun j hj => ?_⟩
      rw [List.length_map]
      simp only [nameU] at hj
      cases hq : m[j]? with
      | none => rw [hq] at hj; cases hj
      | some q => exact (List.getElem?_eq_some_iff.1 hq).1
    | false =>
      rw [hk] at h
      simp only [cond_false] at h
      cases objs with
      | cons o os => cases h
      | nil =>
        obtain ⟨rd2, p, hd, h⟩ := Prog.runs_of_run _ _ _ _ _ h
        have hk := killed_kill s'.objs p.2
        have hno : ∀ b, ¬ own (objsOf []) (fun _ => none) b := fun b ⟨id, o, ha, _⟩ => by simp [objsOf, Obj.alive] at ha
        have hrel2 : RelTs w' (zz (objsOf []) (fun _ => none) Z) (fun _ => none) (fun _ => none) p.1 vals :=
          dataArgs_ok hR'.objs _ us vals _ p hrel hd hk (fun b _ q => q.elim .inl fun q => (hno b q).elim)
        refine ⟨_, _, _, rfl, h, fun _ => none, fun _ => none, one_rel hrel2, ⟨fun id => trivial, fun i j b o o' hi => by simp [objsOf, Obj.alive] at hi, fun _ _ => rfl, hR'.objs.zlt, fun b _ q => hno b q⟩,
          ⟨hF.step, fun x hx q => (hno x q).elim, fun id hid => by simp at hid, fun id hid => by simp at hid⟩, fun j hj => by cases hj⟩
  have fin2 : ∀ (a' : Act) (w' : World) (s' : St) (β' : Beta) (U' : Nat → Option Nat) (Ds : List Nat), evEnd E f fn objs K s' = some r → Rel (Ds.map mark ++ []) w' a' Z β' U' s' → Far objs.length w β U (objsOf objs) w' β' U' s'.objs → s'.np = objs.length →
      Marks w w' (own s'.objs β') Ds → LeavesInM (FW none) 0 P fn a'.tmps (fun e w' => ∃ v rv robjs, e = .returned v ∧ K rv robjs = some r ∧ Told w Z β U objs w' v rv robjs) a'.defers .returning w' := by
    intro a' w' s' β' U' Ds h hR' hF hnp hm
    rw [hR'.defers]
    have hR' := hR'
    induction Ds generalizing w' a' with
    | nil =>
      obtain ⟨_, v, h1, h2⟩ := fin { a' with defers := [] } w' s' β' U' h ⟨hR'.slots, hR'.objs, hR'.size, rfl, hR'.nxt, hR'.np⟩ hF hnp
      exact ⟨v, h1, h2⟩
    | cons D Ds ih =>
      obtain ⟨h1, h2, h3⟩ := hm.2 D (by simp)
      have hD := (Array.getElem?_eq_some_iff.1 h2).1
      have hcalm : Calm w' (w'.putObj D (.deferred none)) := calm_put _ h2 rfl
      have hstep : WStep (fun b => w.heap.size ≤ b) w' (w'.putObj D (.deferred none)) := by
        refine ⟨rfl, rfl, rfl, hcalm.1, fun b hb hn => World.putObj_heap_other (by omega), fun b hb => ?_, fun b o hb => ?_⟩
        · by_cases hbD : b = D
          · subst hbD
            simp [World.shape?, World.putObj_heap_same hb, h2]
          · simp [World.shape?, World.putObj_heap_other hbD]
        · by_cases hbD : b = D
          · subst hbD
            simp [World.frozen?, World.putObj_heap_same hb, h2]
          · simp [World.frozen?, World.putObj_heap_other hbD]
      refine ⟨by simp, .inl ⟨D, _, rfl, run_takeDeferred h2, ?_⟩⟩
      have hown : ∀ b, own s'.objs β' b → (w'.putObj D (.deferred none)).heap[b]? = w'.heap[b]? := fun b hb => World.putObj_heap_other (fun e => h3 (e ▸ hb))
      have hR2 : Rel (Ds.map mark ++ []) (w'.putObj D (.deferred none)) { a' with defers := Ds.map mark ++ [] } Z β' U' s' :=
        Rel.calm hcalm hown ⟨hR'.slots, hR'.objs, hR'.size, rfl, hR'.nxt, hR'.np⟩
      have hm2 : Marks w (w'.putObj D (.deferred none)) (own s'.objs β') Ds := by
        have hnd := List.nodup_cons.1 hm.1
        refine ⟨hnd.2, fun D' hD' => ?_⟩
        obtain ⟨k1, k2, k3⟩ := hm.2 D' (by simp [hD'])
        exact ⟨k1, (World.putObj_heap_other (by rintro rfl; exact hnd.1 hD')).trans k2, k3⟩
      exact ih { a' with defers := Ds.map mark ++ [] } _ hR2 (hF.late hstep) hm2 hR2
  have hnil : Rel [] w { tmps := vs ++ Array.replicate (fn.ntmps - vs.size) undef, defers := [] } Z β U { slots := slotsOf args, objs := objsOf objs, nxt := objs.length, nt := fn.ntmps, np := objs.length } := hR
  refine (callsIn_FW (ρ := none) (n := 0)).1 (callsIn_of_wp_marks hf hc trivial (wpIn_mono (evC_ok hE hcall c [] _ _ w _ β U (hp c hc) h hR) fun e a' w' ⟨te, s', β', U', Ds, q1, q2, q3, q4, q5, q6, q7⟩ => ?_))
  subst q1
  cases te with
  | normal => exact fin2 a' w' s' β' U' Ds q2 q3 q4 q6 q7
  | ret => exact fin2 a' w' s' β' U' Ds q2 q3 q4 q6 q7
  | exit i => cases q2
  | goto i => cases q2

/-! Levels. -/
structure EnvAll (P : Program) (E : Env) : Prop extends EnvOK P E where
  fns : ∀ f fn, E.fns f = some fn → P.funcs[f]? = some fn ∧ (fn.name == "runtime.NumGoroutine") = false
  pieces : ∀ f fn c, E.fns f = some fn → E.sem f = none → fn.body = some c → PiecesOK P E none f fn.ntmps c

theorem callAt_ok (hE : EnvAll P E) : ∀ (d : Nat) (R : Type), CallOK P (callAt (R := R) E d) := by
  intro d
  induction d with
  | zero =>
    intro R f args objs K r h
    unfold callAt at h
    cases hs : E.sem f with
    | some c => rw [hs] at h; exact hE.sem f c hs R args objs K r h
    | none => rw [hs] at h; cases h
  | succ d ih =>
    intro R f args objs K r h
    unfold callAt at h
    cases hs : E.sem f with
    | some c => rw [hs] at h; exact hE.sem f c hs R args objs K r h
    | none =>
      rw [hs] at h
      obtain ⟨fn, hfn, h⟩ := Option.bind_eq_some_iff.1 h
      obtain ⟨h1, h2⟩ := hE.fns f fn hfn
      have hb : fn.body.isNone = false := by
        unfold evFn at h
        obtain ⟨c, hc, _⟩ := Option.bind_eq_some_iff.1 h
        rw [hc]; rfl
      exact ⟨⟨fn, h1, h2, hb⟩, fun w Z β U vs hen => evFn_ok hE.toEnvOK (fun R => ih R) h1 (fun c hc => hE.pieces f fn c hfn hs hc) h hen⟩

/-- A function's contract, from its body. -/
theorem con_fn (hE : EnvOK P E) (hcall : ∀ R, CallOK P (call R)) {f : Nat} {fn : Func} (hf : P.funcs[f]? = some fn) (hname : (fn.name == "runtime.NumGoroutine") = false) (hbody : fn.body.isNone = false) (hp : ∀ c, fn.body = some c → PiecesOK P E none f fn.ntmps c) {k : Con}
    (h : ∀ (R : Type) args objs (K : TV → List Obj → Option R) r, k.run R args objs K = some r → ∃ R' K' r', evFn (R := R') E call f fn args objs K' = some r' ∧ ∀ v o, K' v o = some r' → K v o = some r) : ConOK P f k := by
  intro R args objs K r hr
  obtain ⟨R', K', r', h1, h2⟩ := h R args objs K r hr
  refine ⟨⟨fn, hf, hname, hbody⟩, fun w Z β U vs hen => (evFn_ok hE hcall hf hp h1 hen).mono fun e w' ⟨v, rv, robjs, q1, q2, q3⟩ => ⟨v, rv, robjs, q1, h2 _ _ q2, q3⟩⟩
end
end Go.Te
set_option linter.unusedVariables false
set_option linter.unusedSimpArgs false
namespace Go.Te
open Go.RowKit

/-! ### 42. Ranges over a function -/
/-- A value in which there is nothing that lies in memory. -/
def valL : (l : Leaf) → l.T → Value
  | .int k, x => .int k x
  | .bool, x => .bool x
  | .str, x => .string x
  | .sl _, _ => undef
mutual
def valT : TV → Value
  | .d l x => valL l x
  | .agg xs => .agg (valTs xs).toArray
  | .tup xs => .tuple (valTs xs).toArray
  | _ => undef
def valTs : List TV → List Value
  | [] => []
  | x :: xs => valT x :: valTs xs
end
theorem valTs_eq : ∀ xs, valTs xs = xs.map valT
  | [] => rfl
  | x :: xs => by simp [valTs, valTs_eq xs]

mutual
theorem valT_rel {w : World} {Z : Nat → Prop} {β : Beta} {U : Nat → Option Nat} : ∀ x, flatT x = true → RelT w Z β U x (valT x)
  | .d (.int _) x, h => by simp only [RelT, RelL, valT, valL]
  | .d .bool x, h => by simp only [RelT, RelL, valT, valL]
  | .d .str x, h => by simp only [RelT, RelL, valT, valL]
  | .d (.sl _) x, h => by simp [flatT] at h
  | .agg xs, h => by
    simp only [RelT, valT]
    exact ⟨_, rfl, by simpa using valTs_rel xs (by simpa [flatT] using h)⟩
  | .tup xs, h => by
    simp only [RelT, valT]
    exact ⟨_, rfl, by simpa using valTs_rel xs (by simpa [flatT] using h)⟩
  | .dead, h => by simp [flatT] at h
  | .nil, h => by simp [flatT] at h
  | .ptr _ _, h => by simp [flatT] at h
  | .eptr _ _ _ _, h => by simp [flatT] at h
  | .dptr _ _ _, h => by simp [flatT] at h
  | .arr _ _ _, h => by simp [flatT] at h
  | .arrF _ _, h => by simp [flatT] at h
  | .fn _ _, h => by simp [flatT] at h
  | .raw _, h => by simp [flatT] at h
theorem valTs_rel {w : World} {Z : Nat → Prop} {β : Beta} {U : Nat → Option Nat} : ∀ xs, flatTs xs = true → RelTs w Z β U xs (valTs xs)
  | [], _ => by simp [RelTs, valTs]
  | x :: xs, h => by
    simp only [flatTs, Bool.and_eq_true] at h
    simp only [RelTs, valTs]
    exact ⟨_, _, rfl, valT_rel x h.1, valTs_rel xs h.2⟩
end

/-- What a round leaves as it lay. -/
structure Kept (S : Nat → Prop) (W1 W' : World) : Prop where
  os : W'.os = W1.os
  tape : W'.tape = W1.tape
  output : W'.output = W1.output
  size : W1.heap.size ≤ W'.heap.size
  block : ∀ b, b < W1.heap.size → S b → W'.heap[b]? = W1.heap[b]?
  shape : ∀ b, b < W1.heap.size → W'.shape? b = W1.shape? b
  frozen : ∀ b o, b < W1.heap.size → W'.frozen? ⟨b, o, none⟩ = W1.frozen? ⟨b, o, none⟩
/-- The iterator's own blocks: those of before, and those since Wm. -/
def since (A : Nat → Prop) (Wm W1 : World) (b : Nat) : Prop := A b ∨ (Wm.heap.size ≤ b ∧ b < W1.heap.size)

/-- **A call of an iterator**: it hands yield one value after the other, as long as yield says so. B: what it reads; A: the blocks that it has laid. -/
def Iterates (P : Program) (gf : Nat) (lb : Array Value) (B : Nat → Prop) (xs : List (List TV)) (W : World) : Prop :=
  ∀ (l nf : Nat) (J Jx : Nat → (Nat → Prop) → World → Prop),
    (∀ k x A Wm W1, xs[k]? = some x → J k A Wm → Below Wm.heap.size Wm W1 → YieldAt (FW none) nf P l (valTs x).toArray W1 fun e W' =>
      (e = .returned (.bool true) ∧ J (k + 1) (since A Wm W1) W' ∧ Kept (fun b => B b ∨ since A Wm W1 b) W1 W') ∨ (e = .returned (.bool false) ∧ Jx (k + 1) (since A Wm W1) W')) →
    J 0 (fun _ => False) W →
    CallsIn (FW none) (nf + 1) P gf (#[.func (.yield l) #[] #[]] ++ lb) W fun e W' => (∃ v, e = .returned v) ∧
      ((∃ A Wm, J xs.length A Wm ∧ Below Wm.heap.size Wm W') ∨ (∃ k A Wm, Jx (k + 1) A Wm ∧ Below Wm.heap.size Wm W'))

/-- An iterator's contract: which values it hands yield, by what it has captured. -/
def IterOK (P : Program) (gf : Nat) (it : List TV → Option (List (List TV))) : Prop :=
  ∀ caps xs, it caps = some xs → Enters P gf ∧ ∀ W Z cv, (∀ b, Z b → b < W.heap.size) → RelTs W Z (fun _ => none) (fun _ => none) caps cv.toList → Iterates P gf cv (fun b => b < W.heap.size ∧ ¬ Z b) xs W

mutual
/-- No object's name in it. -/
def pureT : TV → Bool
  | .d _ _ => true
  | .dptr _ _ _ => true
  | .agg xs | .tup xs => pureTs xs
  | .fn _ cs => pureTs cs
  | _ => false
def pureTs : List TV → Bool
  | [] => true
  | x :: xs => pureT x && pureTs xs
end
mutual
theorem pureT_rel {w : World} {Z : Nat → Prop} {β β' : Beta} {U U' : Nat → Option Nat} : ∀ x v, pureT x = true → RelT w Z β U x v → RelT w Z β' U' x v
  | .d _ _, _, _, r => r
  | .dptr _ _ _, _, _, r => r
  | .agg xs, v, h, r => by
    simp only [RelT] at r ⊢
    obtain ⟨vs, h1, h2⟩ := r
    exact ⟨vs, h1, pureTs_rel xs _ (by simpa [pureT] using h) h2⟩
  | .tup xs, v, h, r => by
    simp only [RelT] at r ⊢
    obtain ⟨vs, h1, h2⟩ := r
    exact ⟨vs, h1, pureTs_rel xs _ (by simpa [pureT] using h) h2⟩
  | .fn f xs, v, h, r => by
    simp only [RelT] at r ⊢
    obtain ⟨vs, h1, h2⟩ := r
    exact ⟨vs, h1, pureTs_rel xs _ (by simpa [pureT] using h) h2⟩
  | .dead, _, h, _ => by simp [pureT] at h
  | .nil, _, h, _ => by simp [pureT] at h
  | .ptr _ _, _, h, _ => by simp [pureT] at h
  | .eptr _ _ _ _, _, h, _ => by simp [pureT] at h
  | .arr _ _ _, _, h, _ => by simp [pureT] at h
  | .arrF _ _, _, h, _ => by simp [pureT] at h
  | .raw _, _, h, _ => by simp [pureT] at h
theorem pureTs_rel {w : World} {Z : Nat → Prop} {β β' : Beta} {U U' : Nat → Option Nat} : ∀ xs vs, pureTs xs = true → RelTs w Z β U xs vs → RelTs w Z β' U' xs vs
  | [], _, _, r => by simp only [RelTs] at r ⊢; exact r
  | x :: xs, vs, h, r => by
    simp only [pureTs, Bool.and_eq_true] at h
    simp only [RelTs] at r ⊢
    obtain ⟨v, vs', h1, h2, h3⟩ := r
    exact ⟨v, vs', h1, pureT_rel x v h.1 h2, pureTs_rel xs vs' h.2 h3⟩
end

/-- The round's parameters, laid. -/
def putAll (nt : Nat) : List Nat → List TV → (Nat → TV) → Nat → TV
  | p :: ps, x :: xs, sl => putAll nt ps xs fun t => bif Nat.beq t p then (bif Nat.blt p nt then x else .dead) else sl t
  | _, _, sl => sl

/-- One round. mid: what lives between the assignment and the body. -/
def evRound (E : Env) (call : (R : Type) → Nat → List TV → List Obj → (TV → List Obj → Option R) → Option R) (fid nt n0 : Nat) (ps : List Nat) (assign body : Code) (mid : List Nat) (ins : List Nat) (vals : List TV) (x : List TV) (objs : List Obj) : Option (TExit × List Obj) :=
  evC E call fid assign { slots := putAll nt ps x (assoc (ins.zip vals)), objs := objsOf objs, nxt := objs.length, nt := nt, np := n0 } fun e s => match e with
    | .normal => (cutSt mid s).run s.objs [] fun _ v => bif v.2.all Obj.solid then
        evC E call fid body (laySt mid v.1 v.2 nt n0) fun e s => (cutSt [] s).run s.objs [] fun _ u => bif u.2.all Obj.solid then some (e, u.2) else none
      else none
    | _ => none
def evRounds (E : Env) (call : (R : Type) → Nat → List TV → List Obj → (TV → List Obj → Option R) → Option R) (fid nt n0 : Nat) (ps : List Nat) (assign body : Code) (mid : List Nat) (ins : List Nat) (vals : List TV) : List (List TV) → List Obj → Option (TExit × List Obj)
  | [], objs => some (.normal, objs)
  | x :: xs, objs => (evRound E call fid nt n0 ps assign body mid ins vals x objs).bind fun r => match r.1 with
    | .normal => evRounds E call fid nt n0 ps assign body mid ins vals xs r.2
    | e => some (e, r.2)

def TExit.code : TExit → Code
  | .normal => .skip
  | .exit id => .exit id
  | .goto l => .goto l
  | .ret => .ret
def TExit.goes : TExit → Bool
  | .normal => true
  | _ => false
def TExit.state : TExit → LoopState
  | .normal => .ready
  | _ => .done
def TExit.jump : TExit → Option Code
  | .normal => none
  | e => some e.code
end Go.Te
set_option linter.unusedVariables false
set_option linter.unusedSimpArgs false
namespace Go.Te
open Go.RowKit

theorem WStep.of_below {W W' : World} (h : Below W.heap.size W W') : WStep (fun _ => False) W W' :=
  ⟨h.os, h.tape, h.output, h.size, fun b hb _ => h.block b hb, fun b hb => by simp [World.shape?, h.block b hb], fun b o hb => by simp [World.frozen?, h.block b hb]⟩
/-- A block that is no cells is turned into another such. -/
theorem WStep.put {n : Nat} {W : World} {r : Nat} {o : Go.Obj} (o' : Go.Obj) (h : W.heap[r]? = some o) (ho : o.isCells = false) (ho' : o'.isCells = false) (hn : n ≤ r) : WStep (fun b => n ≤ b) W (W.putObj r o') := by
  refine ⟨rfl, rfl, rfl, by simp [World.putObj], fun b hb hx => World.putObj_heap_other (by omega), fun b hb => ?_, fun b p hb => ?_⟩
  · by_cases hbr : b = r
    · subst hbr
      have e1 : (W.putObj b o').shape? b = none := by
        simp only [World.shape?, World.putObj_heap_same hb]
        cases o' <;> first | rfl | cases ho'
      have e2 : W.shape? b = none := by
        simp only [World.shape?, h]
        cases o <;> first | rfl | cases ho
      rw [e1, e2]
    · simp [World.shape?, World.putObj_heap_other hbr]
  · by_cases hbr : b = r
    · subst hbr
      have e1 : (W.putObj b o').frozen? ⟨b, p, none⟩ = false := by
        simp only [World.frozen?, World.putObj_heap_same hb]
        cases o' <;> first | rfl | cases ho'
      have e2 : W.frozen? ⟨b, p, none⟩ = false := by
        simp only [World.frozen?, h]
        cases o <;> first | rfl | cases ho
      rw [e1, e2]
    · simp [World.frozen?, World.putObj_heap_other hbr]

theorem putAll_rel {w : World} {ZZ : Nat → Prop} {β : Beta} {U : Nat → Option Nat} {nt : Nat} : ∀ (ps : List Nat) (x : List TV) (sl : Nat → TV) (tm : Array Value), tm.size = nt → flatTs x = true → (∀ t, RelT w ZZ β U (sl t) (tm.getD t undef)) →
    (∀ t, RelT w ZZ β U (putAll nt ps x sl t) (((ps.zip (valTs x)).foldl (fun tm (p, v) => tm.setIfInBounds p v) tm).getD t undef)) ∧ ((ps.zip (valTs x)).foldl (fun tm (p, v) => tm.setIfInBounds p v) tm).size = nt
  | [], x, sl, tm, hs, _, h => ⟨h, hs⟩
  | p :: ps, [], sl, tm, hs, _, h => ⟨h, hs⟩
  | p :: ps, y :: x, sl, tm, hs, hf, h => by
    simp only [flatTs, Bool.and_eq_true] at hf
    simp only [putAll, valTs, List.zip_cons_cons, List.foldl_cons]
    refine putAll_rel ps x _ _ (by simpa using hs) hf.2 fun t => ?_
    simp only [beq_if]
    by_cases htp : t = p
    · subst htp
      rw [if_pos rfl]
      cases hb : Nat.blt t nt with
      | false => trivial
      | true =>
        rw [Nat.blt_eq] at hb
        simp only [cond_true]
        have : (tm.setIfInBounds t (valT y)).getD t undef = valT y := by
          simp [Array.getD, hs, hb]
        rw [this]
        exact valT_rel y hf.1
    · rw [if_neg htp]
      have : (tm.setIfInBounds p (valT y)).getD t undef = tm.getD t undef := by
        simp only [Array.getD_eq_getD_getElem?, Array.getElem?_setIfInBounds]
        rw [if_neg (fun e => htp e.symm)]
      rw [this]; exact h t

section
variable {P : Program} {E : Env} {call : (R : Type) → Nat → List TV → List Obj → (TV → List Obj → Option R) → Option R} {Z : Nat → Prop} {w : World} {a : Act} {β : Beta} {U : Nat → Option Nat} {objs : List Obj}

/-- The objects of a loop, at a later moment. -/
structure Held (Z : Nat → Prop) (w : World) (β : Beta) (U : Nat → Option Nat) (objs : List Obj) (W : World) (β2 : Beta) (U2 : Nat → Option Nat) (objs2 : List Obj) : Prop where
  obj : RelO W Z β2 U2 (objsOf objs2)
  use : ∀ id, (U2 id).isSome = true ↔ id < objs2.length
  solid : objs2.all Obj.solid = true
  far : Far objs.length w β U (objsOf objs) W β2 U2 (objsOf objs2)

theorem Held.still {W W' : World} {β2 : Beta} {U2 : Nat → Option Nat} {objs2 : List Obj} (h : Held Z w β U objs W β2 U2 objs2) (hs : WStep (fun _ => False) W W') : Held Z w β U objs W' β2 U2 objs2 :=
  ⟨h.obj.still hs, h.use, h.solid, h.far.late (hs.mono fun _ _ q => q.elim)⟩
theorem Held.put {W : World} {β2 : Beta} {U2 : Nat → Option Nat} {objs2 : List Obj} (h : Held Z w β U objs W β2 U2 objs2) {r : Nat} {o : Go.Obj} (o' : Go.Obj) (hr : W.heap[r]? = some o) (ho : o.isCells = false) (ho' : o'.isCells = false) (hn : w.heap.size ≤ r) :
    Held Z w β U objs (W.putObj r o') β2 U2 objs2 := by
  refine ⟨h.obj.calm (calm_put o' hr ho) fun b hb => ?_, h.use, h.solid, h.far.late (WStep.put o' hr ho ho' hn)⟩
  obtain ⟨c, e, z, hc⟩ := own_cells h.solid h.obj hb
  refine World.putObj_heap_other fun e => ?_
  subst e
  rw [hr] at hc; cases hc; cases ho
theorem Held.not_own {W : World} {β2 : Beta} {U2 : Nat → Option Nat} {objs2 : List Obj} (h : Held Z w β U objs W β2 U2 objs2) {r : Nat} {o : Go.Obj} (hr : W.heap[r]? = some o) (ho : o.isCells = false) : ¬ own (objsOf objs2) β2 r := fun hb => by
  obtain ⟨c, e, z, hc⟩ := own_cells h.solid h.obj hb
  rw [hr] at hc; cases hc; cases ho

/-- What stood in the slots stands there still. -/
theorem Held.slots {ds : List Deferred} {s : St} {W : World} {β2 : Beta} {U2 : Nat → Option Nat} {objs2 : List Obj} (h : Held Z w β U objs W β2 U2 objs2) (hR : Rel ds w a Z β U s) (hso : s.objs = objsOf objs) (hnx : s.nxt = objs.length) :
    ∀ t, RelT W (zz (objsOf objs2) β2 Z) β2 U2 (s.slots t) (a.tmps.getD t undef) := by
  intro t
  have h0 := hR.slots t
  rw [hso] at h0
  refine RelT.step h.far.step (fun b _ q => .inr q) (fun b hb q => q.imp (fun q => q) (h.far.own b hb)) (fun id hid => h.far.le id (by have := hR.nxt id hid; omega)) (fun id l hl => ?_) _ _ h0
  rw [h.far.sub id (by have := hR.nxt id (by rw [hl]; rfl); omega)]; exact hl

variable {fid nt : Nat} {ps : Array Nat} {assign body : Code} {ins mid : List Nat} {vals : List TV} {ds : List Deferred}

/-- **One round.** -/
theorem round_ok (hE : EnvOK P E) (hcall : ∀ R, CallOK P (call R)) {l nf fnid : Nat} (ha : PiecesOK P E (some l) fid nt assign) (hb : PiecesOK P E (some l) fid nt body)
    {st : St} (hst : st = laySt ins vals objs nt objs.length) (hR : Rel ds w a Z β U st) {x : List TV} (hx : flatTs x = true)
    {W : World} {β2 : Beta} {U2 : Nat → Option Nat} {objs2 : List Obj} (hH : Held Z w β U objs W β2 U2 objs2) {rec : Loop} (hrec : W.heap[l]? = some (.loop rec)) (hrd : rec.state = .ready) (hl : w.heap.size ≤ l)
    {res : TExit × List Obj} (hev : evRound E call fid nt objs.length ps.toList assign body mid ins vals x objs2 = some res) :
    RoundIn (FW none) nf P l fnid ((ps.zip (valTs x).toArray).foldl (fun tm (p, v) => tm.setIfInBounds p v) a.tmps) assign body W fun e W' =>
      ∃ β3 U3, ∃ W0 : World, Held Z w β U objs W' β3 U3 res.2 ∧ (e = .returned (.bool res.1.goes)) ∧ Kept (fun b => b ≠ l ∧ ¬ own (objsOf objs2) β2 b) W W' ∧ (∀ b, b < W.heap.size → own (objsOf res.2) β3 b → own (objsOf objs2) β2 b) ∧
        W' = W0.putObj l (.loop { rec with state := res.1.state, pending := res.1.jump }) ∧ l < W0.heap.size := by
  subst hst
  unfold evRound at hev
  refine roundIn_of_wpIn trivial ?_
  have hzip : (ps.zip (valTs x).toArray).foldl (fun tm (p, v) => tm.setIfInBounds p v) a.tmps = (ps.toList.zip (valTs x)).foldl (fun tm (p, v) => tm.setIfInBounds p v) a.tmps := by
    rw [← Array.foldl_toList, Array.toList_zip]
  rw [hzip]
  have hsl := hH.slots hR rfl rfl
  obtain ⟨hp1, hp2⟩ := putAll_rel ps.toList x _ a.tmps hR.size hx hsl
  have hR0 : Rel [] W { tmps := (ps.toList.zip (valTs x)).foldl (fun tm (p, v) => tm.setIfInBounds p v) a.tmps, defers := [] } Z β2 U2
      { slots := putAll nt ps.toList x (assoc (ins.zip vals)), objs := objsOf objs2, nxt := objs2.length, nt := nt, np := objs.length } :=
    ⟨hp1, hH.obj, hp2, rfl, fun id hid => (hH.use id).1 hid, fun id hid => by
      have hid : id < objs.length := hid
      rw [hH.far.sub id hid]; exact hR.np id hid⟩
  have hnl : ¬ own (objsOf objs2) β2 l := hH.not_own hrec rfl
  have hll : l < W.heap.size := (Array.getElem?_eq_some_iff.1 hrec).1
  refine wpIn_mono (evC_ok (ρ := some l) hE hcall assign [] _ _ W _ β2 U2 ha hev hR0) fun e a1 W1 ⟨te, s1, β3, U3, Ds, q1, q2, q3, q4, q5, q6, q7⟩ => ?_
  subst q1
  cases te with
  | exit i => cases q2
  | goto i => cases q2
  | ret => cases q2
  | normal =>
  obtain ⟨rd, v, hv, q2⟩ := Prog.runs_of_run _ _ _ _ _ q2
  obtain ⟨β4, U4, c1, c2, c3⟩ := cut_full q3 hv
  have q5 : s1.nt = nt := q5
  have q6 : s1.np = objs.length := q6
  have q4 : Far objs.length W β2 U2 (objsOf objs2) W1 β3 U3 s1.objs := q4
  rw [q5, q6] at c1
  rw [q6] at c2
  cases hs1 : v.2.all Obj.solid with
  | false => rw [hs1] at q2; cases q2
  | true =>
  rw [hs1] at q2
  have F1 : Far objs.length W β2 U2 (objsOf objs2) W1 β4 U4 (objsOf v.2) := q4.trans c2
  have H1 : Held Z w β U objs W1 β4 U4 v.2 := ⟨c1.objs, fun id => ⟨c1.nxt id, c3 id⟩, hs1, hH.far.trans F1⟩
  have hrec1 : W1.heap[l]? = some (.loop rec) := (F1.step.block l hll hnl).trans hrec
  refine ⟨_, run_beginRound hrec1 hrd, ?_⟩
  have H2 := H1.put (.loop { rec with state := .busy }) hrec1 rfl rfl hl
  have hl1 : l < W1.heap.size := (Array.getElem?_eq_some_iff.1 hrec1).1
  have hrec2 : (W1.putObj l (.loop { rec with state := .busy })).heap[l]? = some (.loop { rec with state := .busy }) := World.putObj_heap_same hl1
  have hR2 : Rel (Ds.map mark ++ []) (W1.putObj l (.loop { rec with state := .busy })) a1 Z β4 U4 (laySt mid v.1 v.2 nt objs.length) :=
    Rel.calm (calm_put _ hrec1 rfl) (fun b hb => World.putObj_heap_other (fun e => H1.not_own hrec1 rfl (e ▸ hb))) c1
  refine wpIn_mono (evC_ok (ρ := some l) hE hcall body _ _ _ _ a1 β4 U4 hb q2 hR2) fun e a2 W2 ⟨te, s2, β5, U5, Ds2, r1, r2, r3, r4, r5, r6, r7⟩ => ?_
  subst r1
  obtain ⟨rd2, u, hu, r2⟩ := Prog.runs_of_run _ _ _ _ _ r2
  obtain ⟨β6, U6, d1, d2, d3⟩ := cut_full r3 hu
  have r5 : s2.nt = nt := r5
  have r6 : s2.np = objs.length := r6
  have r4 : Far objs.length (W1.putObj l (.loop { rec with state := .busy })) β4 U4 (objsOf v.2) W2 β5 U5 s2.objs := r4
  rw [r5, r6] at d1
  rw [r6] at d2
  cases hs2 : u.2.all Obj.solid with
  | false => rw [hs2] at r2; cases r2
  | true =>
  rw [hs2] at r2
  cases r2
  have F2 : Far objs.length (W1.putObj l (.loop { rec with state := .busy })) β4 U4 (objsOf v.2) W2 β6 U6 (objsOf u.2) := r4.trans d2
  have H3 : Held Z w β U objs W2 β6 U6 u.2 := ⟨d1.objs, fun id => ⟨d1.nxt id, d3 id⟩, hs2, H2.far.trans F2⟩
  have hsz : (W1.putObj l (.loop { rec with state := .busy })).heap.size = W1.heap.size := by simp [World.putObj]
  have hnl2 : ¬ own (objsOf v.2) β4 l := H1.not_own hrec1 rfl
  have hrec3 : W2.heap[l]? = some (.loop { rec with state := .busy }) := (F2.step.block l (by rw [hsz]; exact hl1) hnl2).trans hrec2
  have hl2 : l < W2.heap.size := (Array.getElem?_eq_some_iff.1 hrec3).1
  have F2w := F2.step
  have hkept : ∀ (o' : Go.Obj), o'.isCells = false → Kept (fun b => b ≠ l ∧ ¬ own (objsOf objs2) β2 b) W (W2.putObj l o') := fun o' ho' => by
    have P1 := WStep.put (n := 0) (.loop { rec with state := .busy }) hrec1 rfl rfl (Nat.zero_le _)
    have P3 := WStep.put (n := 0) o' hrec3 rfl ho' (Nat.zero_le _)
    have hz1 : W1.heap.size ≤ (W1.putObj l (.loop { rec with state := .busy })).heap.size := by rw [hsz]; exact Nat.le_refl _
    have hz : W.heap.size ≤ (W1.putObj l (.loop { rec with state := .busy })).heap.size := Nat.le_trans F1.step.size hz1
    have hz2 : W.heap.size ≤ W2.heap.size := Nat.le_trans hz F2w.size
    refine ⟨?_, ?_, ?_, Nat.le_trans hz2 P3.size, fun b hb hbl => ?_, fun b hb => ?_, fun b o hb => ?_⟩
    · exact P3.os.trans (F2w.os.trans (P1.os.trans F1.step.os))
    · exact P3.tape.trans (F2w.tape.trans (P1.tape.trans F1.step.tape))
    · exact P3.output.trans (F2w.output.trans (P1.output.trans F1.step.output))
    · obtain ⟨hbl, hbo⟩ := hbl
      rw [World.putObj_heap_other hbl]
      have hb1 : b < W1.heap.size := Nat.lt_of_lt_of_le hb F1.step.size
      rw [F2.step.block b (by rw [hsz]; exact hb1) (fun q => hbo (F1.own b hb q)), World.putObj_heap_other hbl]
      exact F1.step.block b hb hbo
    · exact (P3.shape b (Nat.lt_of_lt_of_le hb hz2)).trans ((F2w.shape b (Nat.lt_of_lt_of_le hb hz)).trans ((P1.shape b (Nat.lt_of_lt_of_le hb F1.step.size)).trans (F1.step.shape b hb)))
    · exact (P3.frozen b o (Nat.lt_of_lt_of_le hb hz2)).trans ((F2w.frozen b o (Nat.lt_of_lt_of_le hb hz)).trans ((P1.frozen b o (Nat.lt_of_lt_of_le hb F1.step.size)).trans (F1.step.frozen b o hb)))
  have hownb : ∀ b, b < W.heap.size → own (objsOf u.2) β6 b → own (objsOf objs2) β2 b := fun b hb q =>
    F1.own b hb (F2.own b (by rw [hsz]; exact Nat.lt_of_lt_of_le hb F1.step.size) q)
  cases te with
  | normal =>
    have := run_endRound (P := P) none hrec3
    exact ⟨_, _, this, β6, U6, W2, H3.put _ hrec3 rfl rfl hl, rfl, hkept _ rfl, hownb, rfl, hl2⟩
  | ret =>
    have := run_endRound (P := P) (some .ret) hrec3
    exact ⟨_, _, this, β6, U6, W2, H3.put _ hrec3 rfl rfl hl, rfl, hkept _ rfl, hownb, rfl, hl2⟩
  | exit i =>
    have := run_endRound (P := P) (some (.exit i)) hrec3
    exact ⟨_, _, this, β6, U6, W2, H3.put _ hrec3 rfl rfl hl, rfl, hkept _ rfl, hownb, rfl, hl2⟩
  | goto i =>
    have := run_endRound (P := P) (some (.goto i)) hrec3
    exact ⟨_, _, this, β6, U6, W2, H3.put _ hrec3 rfl rfl hl, rfl, hkept _ rfl, hownb, rfl, hl2⟩
end
end Go.Te
set_option linter.unusedVariables false
set_option linter.unusedSimpArgs false
namespace Go.Te
open Go.RowKit

section
variable {P : Program} {E : Env} {call : (R : Type) → Nat → List TV → List Obj → (TV → List Obj → Option R) → Option R}

theorem te_code_ne : ∀ te : TExit, te ≠ .normal → te.goes = false ∧ te.state = .done ∧ te.jump = some te.code
  | .normal, h => absurd rfl h
  | .exit i, _ => ⟨rfl, rfl, rfl⟩
  | .goto i, _ => ⟨rfl, rfl, rfl⟩
  | .ret, _ => ⟨rfl, rfl, rfl⟩

/-- **A range over a function**, from its rounds and the iterator's contract. -/
theorem piece_range (hE : EnvOK P E) (hcall : ∀ R, CallOK P (call R)) {fid nt tg : Nat} {ps : Array Nat} {assign body : Code} {p : Piece} {mid : List Nat}
    (ha : ∀ l, PiecesOK P E (some l) fid nt assign) (hb : ∀ l, PiecesOK P E (some l) fid nt body) {gf : Nat} {it : List TV → Option (List (List TV))} (hit : IterOK P gf it)
    (h : ∀ (R : Type) vals objs (K : TExit → List TV → List Obj → Option R) r np, p.run R np vals objs K = some r → ∃ caps xs te objs', assoc (p.ins.zip vals) tg = .fn gf caps ∧ pureTs caps = true ∧ it caps = some xs ∧
      (∀ x ∈ xs, flatTs x = true ∧ x.length = ps.size) ∧ objs.all Obj.solid = true ∧ evRounds E call fid nt objs.length ps.toList assign body mid p.ins vals xs objs = some (te, objs') ∧ K te ((p.outs te).map (assoc (p.ins.zip vals))) objs' = some r) :
    PieceOK P none nt (.rangeFunc (.tmp tg) ps assign body) p := by
  intro ds nf R vals objs K r np hr w a Z β U hR hU
  obtain ⟨caps, xs, te, objs', hg, hpure, hx, hflat, hsol, hev, hK⟩ := h R vals objs K r np hr
  have hfn := hR.slots tg
  have hsl0 : (laySt p.ins vals objs nt np).slots tg = .fn gf caps := hg
  rw [hsl0] at hfn
  simp only [RelT] at hfn
  obtain ⟨cv, hcv, hcaps⟩ := hfn
  obtain ⟨⟨fn, hf1, hf2, hf3⟩, hit'⟩ := hit caps xs hx
  have hR0 : Rel ds w a Z β U (laySt p.ins vals objs nt objs.length) := ⟨hR.slots, hR.objs, hR.size, hR.defers, hR.nxt, hU⟩
  have hO : RelO w Z β U (objsOf objs) := hR.objs
  have hH0 : Held Z w β U objs w β U objs := ⟨hO, fun id => ⟨hR.nxt id, hU id⟩, hsol, Far.refl _ _ _ _ _⟩
  refine wpIn_rangeFunc ?_
  intro fnid _
  obtain ⟨rec, hrec⟩ : ∃ rec : LoopState → Option Code → Loop, rec = fun st pe => { state := st, pending := pe, fn := fnid, tmps := a.tmps, params := ps, assign, body, defers := w.heap.size } := ⟨_, rfl⟩
  obtain ⟨W1, hW1⟩ : ∃ W1, (w.alloc (.deferred (some []))).alloc (.loop (rec .ready none)) = W1 := ⟨_, rfl⟩
  have hL1 : W1.heap[w.heap.size + 1]? = some (.loop (rec .ready none)) := by
    rw [← hW1]; have := World.alloc_heap_new (w.alloc (.deferred (some []))) (.loop (rec .ready none)); rwa [World.size_alloc] at this
  have hD1 : W1.heap[w.heap.size]? = some (.deferred (some [])) := by
    rw [← hW1]; exact (Below.heap_alloc _ _ _ (by simp)).trans (World.alloc_heap_new w _)
  have hsz1 : W1.heap.size = w.heap.size + 2 := by rw [← hW1]; simp
  have hbel1 : Below w.heap.size w W1 := by
    rw [← hW1]; exact ((Below.refl _ w).alloc (Nat.le_refl _) _).alloc (by simp) _
  have hstep1 := WStep.of_below hbel1
  have hres : (resolve a.eval (rangeCall (.tmp tg) (w.heap.size + 1)) 0).run P W1 = .ok { target := .fn (.func gf) cv, args := #[.func (.yield (w.heap.size + 1)) #[] #[]] } W1 := by
    have : a.eval (.tmp tg) = .func (.func gf) #[] cv := hcv
    simp only [resolve, this]
    simp [go_sem]
  have hinv : (invoke (.fn (.func gf) cv) #[.func (.yield (w.heap.size + 1)) #[] #[]]).run P W1 = .ok (.enter gf (#[.func (.yield (w.heap.size + 1)) #[] #[]] ++ cv)) W1 := by
    simp only [beq_eq_false_iff_ne, ne_eq] at hf2
    have h3' : fn.body ≠ none := fun q => by rw [q] at hf3; cases hf3
    simp only [invoke, callFunc]
    simp [program, Sem.run, hf1, hf2, h3']
  refine ⟨w.heap.size + 1, [mark w.heap.size], W1, _, W1, gf, _, W1, ?_, hres, fun _ _ => trivial, hinv, fun q => (by cases q), ?_⟩
  · rw [← hW1, hrec]; exact run_enterLoop_outer _ _ _ _ _
  -- the moments
  let I : Nat → (Nat → Prop) → World → Prop := fun k A W => ∃ objs2 β2 U2, Held Z w β U objs W β2 U2 objs2 ∧ evRounds E call fid nt objs.length ps.toList assign body mid p.ins vals (xs.drop k) objs2 = some (te, objs') ∧
    W.heap[w.heap.size + 1]? = some (.loop (rec .ready none)) ∧ W.heap[w.heap.size]? = some (.deferred (some [])) ∧ ∀ b, A b → b < W.heap.size ∧ w.heap.size + 1 < b ∧ ¬ own (objsOf objs2) β2 b
  let Ix : Nat → (Nat → Prop) → World → Prop := fun k _ W => te ≠ .normal ∧ ∃ β2 U2, Held Z w β U objs W β2 U2 objs' ∧ W.heap[w.heap.size + 1]? = some (.loop (rec .done (some te.code))) ∧ W.heap[w.heap.size]? = some (.deferred (some []))
  have hZ1 : ∀ b, (zz (objsOf objs) β Z b ∨ b = w.heap.size ∨ b = w.heap.size + 1) → b < W1.heap.size := fun b hb => by
    rcases hb with hb | rfl | rfl
    · have : b < w.heap.size := hb.elim (hO.zlt b) (own_lt hO)
      omega
    · omega
    · omega
  have hcaps1 : RelTs W1 (fun b => zz (objsOf objs) β Z b ∨ b = w.heap.size ∨ b = w.heap.size + 1) (fun _ => none) (fun _ => none) caps cv.toList := by
    have h1 := pureTs_rel (β' := fun _ => none) (U' := fun _ => none) caps _ hpure hcaps
    exact RelTs.step hstep1 (fun _ _ q => q.elim) (fun b hb q => q.elim (fun q => q) fun q => by omega) (fun _ _ => rfl) (fun _ _ q => q) caps _ h1
  have hiter := hit' W1 _ cv hZ1 hcaps1
  have h0 : I 0 (fun _ => False) W1 := ⟨objs, β, U, hH0.still hstep1, by simpa using hev, hL1, hD1, fun _ h => h.elim⟩
  -- behind it
  have fin : ∀ (W : World) (β2 : Beta) (U2 : Nat → Option Nat) (jump : Option Code), Held Z w β U objs W β2 U2 objs' → W.heap[w.heap.size]? = some (.deferred (some [])) →
      Rel ([w.heap.size].map mark ++ ds) W { a with defers := [mark w.heap.size] ++ a.defers } Z β2 U2 (laySt (p.outs te) ((p.outs te).map (assoc (p.ins.zip vals))) objs' nt np) ∧ Far np w β U (objsOf objs) W β2 U2 (objsOf objs') ∧ Marks w W (own (objsOf objs') β2) [w.heap.size] := by
    intro W β2 U2 jump hH hD
    have hnp : np ≤ objs.length := by
      rcases Nat.lt_or_ge objs.length np with hlt | hle
      · have h1 := hR.np objs.length hlt
        have h2 : objs.length < objs.length := hR.nxt _ h1
        omega
      · exact hle
    refine ⟨⟨fun t => ?_, hH.obj, hR.size, ?_, fun id hid => (hH.use id).1 hid, fun id hid => ?_⟩, ⟨hH.far.step, hH.far.own, fun id hid => hH.far.le id (Nat.lt_of_lt_of_le hid hnp), fun id hid => hH.far.sub id (Nat.lt_of_lt_of_le hid hnp)⟩, ⟨by simp, fun D hD' => ?_⟩⟩
    · have hs := hH.slots hR0 rfl rfl
      exact assoc_rel (g := assoc (p.ins.zip vals)) (p.outs te) t _ (fun t _ => hs t) rfl
    · have hd : a.defers = ds := hR.defers
      simp [hd]
    · have hid : id < np := hid
      rw [hH.far.sub id (Nat.lt_of_lt_of_le hid hnp)]; exact hU id (Nat.lt_of_lt_of_le hid hnp)
    · simp only [List.mem_singleton] at hD'
      subst hD'
      exact ⟨Nat.le_refl _, hD, hH.not_own hD rfl⟩
  have lateD : ∀ (W W2 : World) (o : Go.Obj), W.heap[w.heap.size]? = some (.deferred (some [])) → Below W.heap.size W W2 → (W2.putObj (w.heap.size + 1) o).heap[w.heap.size]? = some (.deferred (some [])) := fun W W2 o hD hb =>
    (World.putObj_heap_other (by omega)).trans ((hb.block _ (Array.getElem?_eq_some_iff.1 hD).1).trans hD)
  have lateL : ∀ (W W2 : World) (o : Go.Obj), W.heap[w.heap.size + 1]? = some o → Below W.heap.size W W2 → W2.heap[w.heap.size + 1]? = some o := fun W W2 o hL hb =>
    (hb.block _ (Array.getElem?_eq_some_iff.1 hL).1).trans hL
  refine (callsIn_FW (ρ := none) (n := nf - 1)).2 (((callsIn_FW (ρ := none) (n := 0 + 1)).1 (hiter (w.heap.size + 1) 0 I Ix ?_ h0)).mono ?_)
  · -- one round
    rintro k x A Wm Wr hxk ⟨objs2, β2, U2, hH, hevk, hl, hd, hA⟩ hbel
    obtain ⟨hfx, hlx⟩ := hflat x (List.mem_of_getElem? hxk)
    have hH' := hH.still (WStep.of_below hbel)
    have hl' := lateL _ _ _ hl hbel
    have hlv : (valTs x).toArray.size = ps.size := by simp [valTs_eq, hlx]
    have hy := run_yield (P := P) (args := (valTs x).toArray) hl' (by rw [hrec]; exact hlv)
    rw [hrec] at hy
    have hdrop : xs.drop k = x :: xs.drop (k + 1) := by
      obtain ⟨hk, hxk⟩ := List.getElem?_eq_some_iff.1 hxk
      rw [← hxk]; exact List.drop_eq_getElem_cons hk
    rw [hdrop] at hevk
    simp only [evRounds] at hevk
    obtain ⟨res, hres1, hres2⟩ := Option.bind_eq_some_iff.1 hevk
    refine ⟨fnid, _, assign, body, hy, (round_ok hE hcall (ha _) (hb _) rfl hR0 hfx hH' hl' (by rw [hrec]) (by omega) hres1).mono ?_⟩
    rintro e W' ⟨β3, U3, W0, hH3, he, hkeep, hown3, hW', hl0⟩
    have hrecL : ∀ (s : LoopState) (pe : Option Code), ({ rec .ready none with state := s, pending := pe } : Loop) = rec s pe := fun s pe => by rw [hrec]
    rw [hrecL] at hW'
    have hDm : w.heap.size < Wr.heap.size := by
      have := (Array.getElem?_eq_some_iff.1 hl').1
      omega
    have hD' : W'.heap[w.heap.size]? = some (.deferred (some [])) := by
      have hdr : Wr.heap[w.heap.size]? = some (.deferred (some [])) := (hbel.block _ (Array.getElem?_eq_some_iff.1 hd).1).trans hd
      rw [hkeep.block _ hDm ⟨by omega, hH'.not_own hdr rfl⟩]; exact hdr
    by_cases hn : res.1 = .normal
    · left
      rw [hn] at he hW' hres2
      have hLm : w.heap.size + 1 < Wm.heap.size := (Array.getElem?_eq_some_iff.1 hl).1
      refine ⟨he, ⟨res.2, β3, U3, hH3, hres2, ?_, hD', fun b hb => ?_⟩, ⟨hkeep.os, hkeep.tape, hkeep.output, hkeep.size, fun b hb hB => ?_, hkeep.shape, hkeep.frozen⟩⟩
      · rw [hW']; exact World.putObj_heap_same hl0
      · rcases hb with hb | ⟨hb1, hb2⟩
        · obtain ⟨k1, k2, k3⟩ := hA b hb
          have k4 : b < Wr.heap.size := Nat.lt_of_lt_of_le k1 hbel.size
          exact ⟨Nat.lt_of_lt_of_le k4 hkeep.size, k2, fun q => k3 (hown3 b k4 q)⟩
        · refine ⟨Nat.lt_of_lt_of_le hb2 hkeep.size, by omega, fun q => ?_⟩
          have := own_lt hH.obj (hown3 b hb2 q)
          omega
      · refine hkeep.block b hb ⟨?_, fun ho => ?_⟩
        · rintro rfl
          rcases hB with hB | hB | hB
          · exact hB.2 (.inr (.inr rfl))
          · have := (hA _ hB).2.1
            omega
          · omega
        · have hbm : b < Wm.heap.size := own_lt hH.obj ho
          rcases hB with hB | hB | hB
          · have hbw : b < w.heap.size := by
              rcases Nat.lt_or_ge b w.heap.size with h | h
              · exact h
              · have h1 := hB.1
                rw [hsz1] at h1
                exact absurd (show b = w.heap.size ∨ b = w.heap.size + 1 by omega) (fun q => hB.2 (.inr q))
            exact hB.2 (.inl (.inr (hH.far.own b hbw ho)))
          · exact (hA b hB).2.2 ho
          · omega
    · right
      obtain ⟨e1, e2, e3⟩ := te_code_ne _ hn
      rw [e1] at he
      rw [e2, e3] at hW'
      have hres3 : some (res.1, res.2) = some (te, objs') := by
        cases hr1 : res.1 with
        | normal => exact absurd hr1 hn
        | _ => rw [hr1] at hres2; exact hres2
      simp only [Option.some.injEq, Prod.mk.injEq] at hres3
      obtain ⟨f1, f2⟩ := hres3
      rw [f1] at hW' hn
      rw [f2] at hH3
      exact ⟨he, hn, β3, U3, hH3, by rw [hW']; exact World.putObj_heap_same hl0, hD'⟩
  · -- behind the iterator
    rintro e W2 ⟨⟨v, rfl⟩, ⟨A, Wm, ⟨objs2, β2, U2, hH, hevk, hl, hd, _⟩, hbel⟩ | ⟨k, A, Wm, ⟨hn, β2, U2, hH, hl, hd⟩, hbel⟩⟩
    · have hl2 := lateL _ _ _ hl hbel
      generalize hrc : rec .ready none = rc at hl2
      have hend := run_endLoop (P := P) hl2 (by rw [← hrc, hrec]; simp)
      rw [List.drop_length] at hevk
      simp only [evRounds, Option.some.injEq, Prod.mk.injEq] at hevk
      obtain ⟨rfl, rfl⟩ := hevk
      obtain ⟨f1, f2, f3⟩ := fin _ β2 U2 none ((hH.still (WStep.of_below hbel)).put (.loop { rc with state := .exhausted }) hl2 rfl rfl (by omega)) (lateD _ _ _ hd hbel)
      obtain ⟨W4, hW4⟩ : ∃ W4, W4 = W2.putObj (w.heap.size + 1) (.loop { rc with state := .exhausted }) := ⟨_, rfl⟩
      rw [← hW4] at hend f1 f2 f3
      refine ⟨_, W4, hend, ?_⟩
      have : rc.pending = none := by rw [← hrc, hrec]
      rw [this]
      exact ⟨.normal, _, objs2, β2, U2, [w.heap.size], rfl, hK, f1, f2, f3⟩
    · have hl2 := lateL _ _ _ hl hbel
      generalize hrc : rec .done (some te.code) = rc at hl2
      have hend := run_endLoop (P := P) hl2 (by rw [← hrc, hrec]; simp)
      obtain ⟨f1, f2, f3⟩ := fin _ β2 U2 none ((hH.still (WStep.of_below hbel)).put (.loop { rc with state := .exhausted }) hl2 rfl rfl (by omega)) (lateD _ _ _ hd hbel)
      obtain ⟨W4, hW4⟩ : ∃ W4, W4 = W2.putObj (w.heap.size + 1) (.loop { rc with state := .exhausted }) := ⟨_, rfl⟩
      rw [← hW4] at hend f1 f2 f3
      refine ⟨_, W4, hend, ?_⟩
      have : rc.pending = some te.code := by rw [← hrc, hrec]
      rw [this]
      cases te with
      | normal => exact absurd rfl hn
      | exit i => exact wpIn_exit ⟨.exit i, _, objs', β2, U2, [w.heap.size], rfl, hK, f1, f2, f3⟩
      | goto i => exact wpIn_goto ⟨.goto i, _, objs', β2, U2, [w.heap.size], rfl, hK, f1, f2, f3⟩
      | ret => exact wpIn_ret ⟨.ret, _, objs', β2, U2, [w.heap.size], rfl, hK, f1, f2, f3⟩
end
end Go.Te
set_option linter.unusedVariables false
set_option linter.unusedSimpArgs false
namespace Go.Te
open Go.RowKit

/-! ### 43. Parts with labels -/
section
variable {P : Program} {b : Frame} {a : Act} {k : List Item} {cs : List Frame} {w : World}
theorem stepR_scope {c : Code} : step P (lone (b.atR a (.code (.scope c) :: k)) cs w) = .next (lone (b.atR a (.code c :: .inScope c :: k)) cs w) :=
  step_lone_go (by simp [stepG, stepG.exec, Frame.atR])
theorem stepR_inScope {c : Code} : step P (lone (b.atR a (.inScope c :: k)) cs w) = .next (lone (b.atR a k) cs w) :=
  step_lone_go (by simp [stepG, stepG.exec, Frame.atR])
end

/-- A walk of some code within a scope. -/
def ScopeAt (F : Fence) (n : Nat) (P : Program) (c code : Code) (Q : Exit → Act → World → Prop) (a : Act) (w : World) : Prop :=
  ∀ (b : Frame) (k : List Item) (cs : List Frame), b.roundOf = F.round → F.fn b.fn → F.room (cs.length + 1 + n) →
    ∃ e a' w', Q e a' w' ∧ ArrivesIn (Machine.fenced P F) P (lone (b.atR a (.code code :: .inScope c :: k)) cs w) b k cs e a' w'

theorem scope_of_at {F : Fence} {n : Nat} {P : Program} {c : Code} {Q : Exit → Act → World → Prop} {a : Act} {w : World} (h : ScopeAt F n P c c Q a w) : (Code.scope c).wpIn F n P Q a w := by
  intro b k cs hro hb hr
  obtain ⟨e, a', w', hq, harr⟩ := h b k cs hro hb hr
  exact ⟨e, a', w', hq, .of_steps (.one (fenced_calm hb hr rfl) stepR_scope) harr⟩

/-- By the code's own walk: a jump to a label of the scope's goes on from there. -/
theorem scopeAt_of {F : Fence} {n : Nat} {P : Program} {c code : Code} {Q : Exit → Act → World → Prop} {a : Act} {w : World}
    (h : code.wpIn F n P (fun e a' w' => match e with | .goto j => (∀ rest, findLabel c j = some rest → ScopeAt F n P c rest Q a' w') ∧ (findLabel c j = none → Q (.goto j) a' w') | e => Q e a' w') a w) : ScopeAt F n P c code Q a w := by
  intro b k cs hro hb hr
  obtain ⟨e, a₁, w₁, hq, harr⟩ := h b (.inScope c :: k) cs hro hb hr
  cases e with
  | normal => exact ⟨.normal, a₁, w₁, hq, StepsIn.trans harr (.one (fenced_calm hb hr rfl) stepR_inScope)⟩
  | exit id =>
    have hx : exitTo id (.inScope c :: k) = exitTo id k := by simp [exitTo]
    exact ⟨.exit id, a₁, w₁, hq, fun k' hk => harr.1 k' (by rw [hx]; exact hk), fun hr' hk => harr.2 hr' (by rw [hx]; exact hk)⟩
  | goto j =>
    cases hf : findLabel c j with
    | some rest =>
      have hg : gotoIn j (.inScope c :: k) = some (.code rest :: .inScope c :: k) := by simp [gotoIn, hf]
      obtain ⟨e₂, a₂, w₂, hq₂, harr₂⟩ := hq.1 rest hf b k cs hro hb hr
      exact ⟨e₂, a₂, w₂, hq₂, .of_steps (harr.1 _ hg) harr₂⟩
    | none =>
      have hg : gotoIn j (.inScope c :: k) = gotoIn j k := by simp [gotoIn, hf]
      exact ⟨.goto j, a₁, w₁, hq.2 hf, fun k' hk => harr.1 k' (by rw [hg]; exact hk), fun hr' hk => harr.2 hr' (by rw [hg]; exact hk)⟩
  | ret => exact ⟨_, a₁, w₁, hq, harr⟩
  | panic ch => exact ⟨_, a₁, w₁, hq, harr⟩
  | outgrown => exact ⟨_, a₁, w₁, hq, harr⟩

theorem pieces_label {P : Program} {E : Env} {ρ : Option Nat} {fid nt : Nat} : ∀ (c : Code) (j : Nat) (rest : Code), findLabel c j = some rest → PiecesOK P E ρ fid nt c → PiecesOK P E ρ fid nt rest
  | .seq x y, j, rest, h, hp => by
    simp only [findLabel] at h
    cases hx : findLabel x j with
    | some r =>
      rw [hx] at h
      simp only [Option.some.injEq] at h
      subst h
      exact ⟨pieces_label x j r hx hp.1, hp.2⟩
    | none =>
      rw [hx] at h
      exact pieces_label y j rest h hp.2
  | .label i, j, rest, h, _ => by
    simp only [findLabel] at h
    split at h
    · cases h; trivial
    · cases h
  | .skip, _, _, h, _ => by simp [findLabel] at h
  | .region _ _ _, _, _, h, _ => by simp [findLabel] at h
  | .cond _ _ _, _, _, h, _ => by simp [findLabel] at h
  | .block _ _, _, _, h, _ => by simp [findLabel] at h
  | .loop _, _, _, h, _ => by simp [findLabel] at h
  | .rangeFunc _ _ _ _, _, _, h, _ => by simp [findLabel] at h
  | .exit _, _, _, h, _ => by simp [findLabel] at h
  | .scope _, _, _, h, _ => by simp [findLabel] at h
  | .goto _, _, _, h, _ => by simp [findLabel] at h
  | .ret, _, _, h, _ => by simp [findLabel] at h
  | .refuse _, _, _, h, _ => by simp [findLabel] at h

section
variable {ρ : Option Nat} {nf : Nat} {P : Program} {E : Env} {call : (R : Type) → Nat → List TV → List Obj → (TV → List Obj → Option R) → Option R} {Z : Nat → Prop}

theorem scope_ok (hE : EnvOK P E) (hcall : ∀ R, CallOK P (call R)) {fid nt np : Nat} {c : Code} {lab : Nat → List Nat} {p : Piece} (hp : PiecesOK P E ρ fid nt c) : ∀ (n : Nat) (code : Code) (s : St) (objs : List Obj) (res : TExit × List TV × List Obj),
    PiecesOK P E ρ fid nt code → evScope E call fid nt np c lab p n code s = some res → ∀ (ds : List Deferred) (w : World) (a : Act) (β : Beta) (U : Nat → Option Nat), Rel ds w a Z β U s → s.objs = objsOf objs → s.nt = nt → s.np = np →
    ScopeAt (FW ρ) nf P c code (Ends ds Z w β U objs p nt np res) a w
  | 0, _, _, _, _, _, h, _, _, _, _, _, _, _, _, _ => by simp [evScope] at h
  | n + 1, code, s, objs, res, hpc, h, ds, w, a, β, U, hR, hso, hnt, hnp => by
    simp only [evScope] at h
    refine scopeAt_of (wpIn_mono (evC_ok hE hcall code ds _ _ w a β U (by rw [hnt]; exact hpc) h hR) fun e a' w' ⟨te, s', β', U', Ds, q1, q2, q3, q4, q5, q6, q7⟩ => ?_)
    subst q1
    rw [hnp, hso] at q4
    rw [hnt] at q5
    rw [hnp] at q6
    cases te with
    | normal => exact ends_of (s0 := s') q2 q3 q4 q5 q6 q7
    | exit i => exact ends_of (s0 := s') q2 q3 q4 q5 q6 q7
    | ret => exact ends_of (s0 := s') q2 q3 q4 q5 q6 q7
    | goto j =>
      refine ⟨fun rest hf => ?_, fun hf => ?_⟩
      · simp only [hf] at q2
        obtain ⟨rd, v, hv, q2⟩ := Prog.runs_of_run _ _ _ _ _ q2
        obtain ⟨β2, U2, c1, c2⟩ := cut_state q3 hv
        rw [q5, q6] at c1
        rw [q6] at c2
        have := scope_ok hE hcall hp n rest _ v.2 res (pieces_label c j rest hf hp) q2 _ w' a' β2 U2 c1 rfl rfl rfl
        intro b k cs hro hb hr
        obtain ⟨e, a2, w2, ⟨β3, U3, D3, e1, e2, e3, e4⟩, harr⟩ := this b k cs hro hb hr
        exact ⟨e, a2, w2, ⟨β3, U3, D3 ++ Ds, e1, by rw [List.map_append, List.append_assoc]; exact e2, (q4.trans c2).trans e3, Marks.trans (q7.less fun b hb q => c2.own b hb q) q4.step.size e3 e4⟩, harr⟩
      · simp only [hf] at q2
        exact ends_of (s0 := s') q2 q3 q4 q5 q6 q7

/-- A scope's contract. -/
theorem piece_scope (hE : EnvOK P E) (hcall : ∀ R, CallOK P (call R)) {fid nt : Nat} {c : Code} {lab : Nat → List Nat} {p : Piece} (hp : PiecesOK P E ρ fid nt c)
    (h : ∀ (R : Type) vals objs (K : TExit → List TV → List Obj → Option R) r np, p.run R np vals objs K = some r → ∃ n res, evScope E call fid nt np c lab p n c (laySt p.ins vals objs nt np) = some res ∧ K res.1 res.2.1 res.2.2 = some r) : PieceOK P ρ nt (.scope c) p := by
  intro ds nf R vals objs K r np hr w a Z β U hR _
  obtain ⟨n, res, h1, h2⟩ := h R vals objs K r np hr
  exact wpIn_mono (scope_of_at (scope_ok hE hcall hp n c _ objs res hp h1 ds w a β U hR rfl rfl rfl)) fun e a' w' ⟨β', U', Ds, q1, q2, q3, q4⟩ => ⟨res.1, res.2.1, res.2.2, β', U', Ds, q1, h2, q2, q3, q4⟩
end
end Go.Te
