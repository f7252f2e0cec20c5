/-
  heliographlaw14.SenderGaps: what is claimed and what is not have, together, each byte once.
  No conditions: every input that the statement lets in. Part Wk: own work.
-/
import Derived.Test.YtfjklknekiogcaaIt
import Derived.Test.YtfjklknekiogcaaTeFuel
set_option linter.unusedVariables false
set_option maxRecDepth 100000
namespace Go.Te
open Go.RowKit Go.Proofs

noncomputable def iterSl (f : Nat) : Option (List TV → Option (List (List TV))) := bif Nat.beq f 130 then some gapsIt else none

noncomputable def W00 : Env := baseEnv (tyAt tab) fnsSl (fun _ => none) (fun _ => false) (fun _ => false)
theorem W00_ok : EnvDeep Try.prog W00 := baseEnv_ok tOk (by kernel_rfl) fnsOKSl (fun _ _ h => by cases h)
noncomputable def W01 : Env := baseEnv (tyAt tab) fnsSl (fun _ => none) (fun _ => false) (fun _ => true)
theorem W01_ok : EnvDeep Try.prog W01 := baseEnv_ok tOk (by kernel_rfl) fnsOKSl (fun _ _ h => by cases h)
theorem ok110 : ConOK Try.prog 110 (cloneCon [.int .u8] (1099511627776 / (1 + 1))) :=
  clone_ok W00_ok (fn := Try.f110) (by kernel_rfl) (fun y ys => by kernel_rfl) (fun a c => by cases a <;> exact ⟨_, by kernel_rfl, rfl⟩)
theorem ok124 : ConOK Try.prog 124 (cloneCon [.int .i64, .int .i64] (1099511627776 / (16 + 1))) :=
  clone_ok W00_ok (fn := Try.f124) (by kernel_rfl) (fun y ys => by kernel_rfl) (fun a c => by cases a <;> exact ⟨_, by kernel_rfl, rfl⟩)
theorem ok125 : ConOK Try.prog 125 (cloneKeep 26 [.int .u32] (1099511627776 / (4 + 1))) :=
  keep_ok W01_ok (fn := Try.f125) (by kernel_rfl) (fun y ys => by kernel_rfl) (fun a c => by cases a <;> kernel_rfl)
noncomputable def semC (f : Nat) : Option Con := bif Nat.beq f 110 then some (cloneCon [.int .u8] (1099511627776 / (1 + 1))) else bif Nat.beq f 124 then some (cloneCon [.int .i64, .int .i64] (1099511627776 / (16 + 1))) else bif Nat.beq f 125 then some (cloneKeep 26 [.int .u32] (1099511627776 / (4 + 1))) else none
theorem semC_ok (f : Nat) (c : Con) (h : semC f = some c) : ConOK Try.prog f c ∧ c.natural := by
  unfold semC at h
  cases h110 : Nat.beq f 110 with
  | true => rw [h110] at h; cases h; cases Nat.eq_of_beq_eq_true h110; exact ⟨ok110, cloneCon_natural _ _⟩
  | false =>
    rw [h110] at h
    cases h124 : Nat.beq f 124 with
    | true => rw [h124] at h; cases h; cases Nat.eq_of_beq_eq_true h124; exact ⟨ok124, cloneCon_natural _ _⟩
    | false =>
      rw [h124] at h
      cases h125 : Nat.beq f 125 with
      | true => rw [h125] at h; cases h; cases Nat.eq_of_beq_eq_true h125; exact ⟨ok125, cloneKeep_natural _ _ _⟩
      | false =>
        rw [h125] at h
        cases h
noncomputable def W0 : Env := baseEnv (tyAt tab) fnsSl semC (fun f => Nat.beq f 100 || Nat.beq f 101 || Nat.beq f 86) (fun f => Nat.beq f 85)
noncomputable def W1 : Env := W0.lift 20 600 iterSl (lookL liveSl) [86, 134, 94, 85]
noncomputable def W2 : Env := W1.lift 20 600 iterSl (lookL liveSl) [86, 134, 94, 92, 95, 96, 85]
noncomputable def W3 : Env := W2.lift 20 600 iterSl (lookL liveSl) [86, 134, 94, 92, 95, 96, 84, 97, 85]
noncomputable def W4 : Env := W3.lift 20 600 iterSl (lookL liveSl) [86, 134, 94, 92, 95, 96, 84, 97, 85]

theorem iterSl_ok (gf : Nat) (it : List TV → Option (List (List TV))) (h : iterSl gf = some it) : IterOK Try.prog gf it := by
  unfold iterSl at h
  cases hb : Nat.beq gf 130 with
  | true => rw [hb] at h; cases h; cases Nat.eq_of_beq_eq_true hb; exact iter130
  | false => rw [hb] at h; cases h
theorem W0_ok : EnvDeep Try.prog W0 := baseEnv_ok tOk (by kernel_rfl) fnsOKSl semC_ok
theorem W1_ok : EnvDeep Try.prog W1 := EnvDeep.lift W0_ok iterSl_ok fun _ _ _ hf hb => FnsOK.tidies fnsOKSl hf hb
theorem W2_ok : EnvDeep Try.prog W2 := EnvDeep.lift W1_ok iterSl_ok fun _ _ _ hf hb => FnsOK.tidies fnsOKSl hf hb
theorem W3_ok : EnvDeep Try.prog W3 := EnvDeep.lift W2_ok iterSl_ok fun _ _ _ hf hb => FnsOK.tidies fnsOKSl hf hb
theorem W4_ok : EnvDeep Try.prog W4 := EnvDeep.lift W3_ok iterSl_ok fun _ _ _ hf hb => FnsOK.tidies fnsOKSl hf hb

/-- A closed call that says true. -/
def conTrue : Con := ⟨fun _ args objs K => match args, objs with
  | [], [] => K (.d .bool true) []
  | _, _ => none⟩
theorem conTrue_natural : conTrue.natural := by
  intro R args objs K
  simp only [conTrue]
  split <;> rfl
theorem conTrue_ok {P : Program} {E : Env} (h : EnvDeep P E) {d f : Nat} {fn : Func} (hf : E.fns f = some fn) (hv : evFn (R := TV × List Obj) E (fun R => callAt (R := R) E d) f fn [] [] (fun v o => some (v, o)) = some (.d .bool true, [])) : ConOK P f conTrue := by
  intro R args objs K r hr
  refine playCon_ok h (d := d) hf R args objs K r ?_
  simp only [conTrue] at hr
  split at hr
  · simp only [playCon, hv, Option.bind_some]; exact hr
  · cases hr
theorem play22 : evFn (R := TV × List Obj) W4 (fun R => callAt (R := R) W4 8) 22 Try.f22 [] [] (fun v o => some (v, o)) = some (.d .bool true, []) := by kernel_rfl
/-- heliographlaw14.wakes() is true. -/
theorem wakes14 : ConOK Try.prog 22 conTrue := conTrue_ok W4_ok (fn := Try.f22) (by kernel_rfl) play22
end Go.Te
