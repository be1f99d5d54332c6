/- BucketWindows holds: what is taken between any two steps is at most the burst, and the rate times the ticks between, and a take is refused just if it would be more than that, of some time that ends then. Conditions: none beyond the given row. -/
import Derived.Test.YtogflpgeaobocaaRow
import Derived.Test.YtogflpgeaobocaaBWin
namespace Go.Proofs.Ytogflpgeaobocaa.bucketWindows
open Go.ChangeShapes Go.WideShapes Go.ChangeAt Go.RowKit Go.Deep
open Go.ChangeMaps (open_string shut_string)
set_option linter.unusedVariables false

set_option maxRecDepth 100000 in
theorem lifted (os : Os) (started : os.Started) (H : Type) (enc : TypeId × Value → H) :
    ReturnsInHanded {} Try.checked os 7 .any (Rows.bucketWindowsSpec.pre6 enc Try.prog Try.f7 Rows.bucketWindowsRow.domain false) (Rows.bucketWindowsSpec.post enc Try.prog Try.f7 false true false false) := by
  refine returnsInHanded_of_change_sized (C := Try.checked) Try.own started (by kernel_rfl) Try.func7
    (ChangeSpec.witness6 (enc := enc) (C := Try.checked) false ⟨#[], #[.int .i64 0, .int .i64 0, .slice none 0 0], []⟩ 8 (by kernel_rfl) (by kernel_rfl) (by kernel_rfl) (by kernel_rfl)) ?_
  intro W base args ds gs before hval0 hW hcnd hsz0 _
  have hsz : (DataW.weightsEach Try.prog (Try.f7.params.toList ++ Rows.bucketWindowsSpec.plain.varTypes Try.prog) (ds ++ gs)).all (· ≤ reachBytes) = true := hsz0
  have hval : ∀ (j : Nat) t v, Try.f7.params[j]? = some t → args[j]? = some v → Value.okWide Try.prog W .any base t v := hval0
  have hW' := hW
  obtain ⟨p, q, hA0, hV, rfl, hfz, hnd⟩ := hW
  have hA : DataW.TrodAll enc Try.prog W 0 (fun _ => true) true Try.f7.params.toList args.toList ds p := hA0
  rw [Try.params7] at hA hval hsz
  obtain ⟨v0, vs0, d0, ds0, p0, q0, hargs, rfl, rfl, h0, r0⟩ := trodAll_cons hA
  obtain ⟨v1, vs1, d1, ds1, p1, q1, rfl, rfl, rfl, h1, r1⟩ := trodAll_cons r0
  obtain ⟨v2, vs2, d2, ds2, p2, q2, rfl, rfl, rfl, h2, r2⟩ := trodAll_cons r1
  obtain ⟨rfl, rfl, rfl⟩ := trodAll_nil r2
  obtain rfl : args = #[v0, v1, v2] := by cases args; simp_all
  obtain ⟨rfl, rfl⟩ := trodVars_none hV
  obtain ⟨a0, rfl, e0, z0, w0⟩ := open_int Try.underlying3 (hval 0 3 v0 rfl rfl) h0
  obtain ⟨a1, rfl, e1, z1, w1⟩ := open_int Try.underlying3 (hval 1 3 v1 rfl rfl) h1
  have ft2 : ∀ (j : Nat) (f : Field), (match Try.prog.underlying 49 with | some (.struct fs) => fs | _ => #[])[j]? = some f → f.type = 3 := fun j f h => by
    rw [Try.underlying49] at h
    match j, h with
    | 0, h => cases h; rfl
    | 1, h => cases h; rfl
    | 2, h => cases h; rfl
  rw [Try.underlying49] at ft2
  obtain ⟨A2, n2, c2, f2, rfl, b2, w2⟩ := open_int_structs Try.underlying42 Try.underlying49 (by kernel_rfl) (by kernel_rfl) (by decide) Try.underlying3 ft2 (hval 2 42 v2 rfl rfl) h2
  clear hA0 hval0 hsz0 hsz
  refine (bwin_walk a0 a1 A2 n2 c2 f2 W (i64_of_wf w0) (i64_of_wf w1) b2 w2).mono fun e W' ht => ?_
  exact post_of_tells Try.laidOut (by kernel_rfl) ⟨4, by kernel_rfl, Try.underlying4⟩ rfl rfl hW' ht

theorem proved : Rows.BucketWindowsSaid :=
  OpenClaim.holds_of_wide 7 Try.f7 rfl rfl rfl rfl rfl rfl rfl ⟨rfl, rfl, rfl, rfl, rfl⟩ rfl rfl rfl rfl rfl (by kernel_rfl) Try.func7 (by kernel_rfl)
    (of_decide_eq_true (by kernel_rfl)) (by unfold Func.isWrapper; first | (rw [if_pos (by decide +kernel)]; kernel_rfl) | (rw [if_neg (by decide +kernel)]; exact ⟨rfl, rfl⟩))
    (fun os started H enc _ => lifted os started H enc)
#print axioms proved
end Go.Proofs.Ytogflpgeaobocaa.bucketWindows
namespace Go.Proofs.Ytogflpgeaobocaa
theorem bucketWindows_holds : Rows.BucketWindowsSaid := bucketWindows.proved
end Go.Proofs.Ytogflpgeaobocaa
