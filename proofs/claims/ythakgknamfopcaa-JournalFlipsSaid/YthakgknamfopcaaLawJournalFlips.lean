/- The statement JournalFlips: one changed byte of a record is seen, and the records ahead of it are read. No condition. -/
import Derived.Test.YthakgknamfopcaaRows
import Derived.Test.YthakgknamfopcaaWU
import Derived.Test.YthakgknamfopcaaLvRow
namespace Go.Proofs.Ythakgknamfopcaa.journalFlips
open Go.ChangeShapes Go.WideShapes Go.ChangeAt Go.RowKit Go.Lv
set_option linter.unusedVariables false
set_option linter.constructorNameAsVariable false
set_option maxRecDepth 100000

theorem own : ownKnob Try.prog.godebug = none := by kernel_rfl
theorem laidOut : laidOutB Try.prog = true := by kernel_rfl
theorem arg_u16 {Hp : LH} {y : LV} (h : LArg Try.prog Hp 5 45 y) : ∃ p : Nat, y = .int .u16 (p : Int) ∧ p < 65536 := by
  unfold LArg at h
  rw [TUnd.out (P := Try.prog) (t := 45)] at h
  unfold LOk at h
  simp only at h
  rw [TUnd.out (P := Try.prog) (t := 45)] at h
  obtain ⟨n, h1, h2⟩ := h
  simp only [Lit.wf, Bool.and_eq_true, decide_eq_true_eq] at h2
  have e1 : IntKind.u16.min = 0 := by decide
  have e2 : IntKind.u16.max = 65535 := by decide
  simp only [List.cons.injEq, and_true] at h1
  exact ⟨n.toNat, by rw [h1]; congr 1; omega, by omega⟩
theorem arg_u8 {Hp : LH} {y : LV} (h : LArg Try.prog Hp 5 5 y) : ∃ b : UInt8, y = .int .u8 (b.toNat : Int) := by
  unfold LArg at h
  rw [TUnd.out (P := Try.prog) (t := 5)] at h
  unfold LOk at h
  simp only at h
  rw [TUnd.out (P := Try.prog) (t := 5)] at h
  obtain ⟨n, h1, h2⟩ := h
  simp only [Lit.wf, Bool.and_eq_true, decide_eq_true_eq] at h2
  have e1 : IntKind.u8.min = 0 := by decide
  have e2 : IntKind.u8.max = 255 := by decide
  simp only [List.cons.injEq, and_true] at h1
  refine ⟨UInt8.ofNat n.toNat, ?_⟩
  rw [h1]
  congr 1
  rw [UInt8.toNat_ofNat']
  omega
theorem law (Hp : LH) (ys : List LV) (h : LArgs Try.prog Hp 5 [30, 45, 5] ys) : CallP Try.prog 5 ys Hp (fun o H' => o = .ret (.bool true)) := by
  match ys, h with
  | [y1, y2, y3], h =>
    obtain ⟨cl, la, h1, h2, h3⟩ := arg_cmds h.1
    obtain ⟨p, rfl, hp⟩ := arg_u16 h.2.1
    obtain ⟨b, rfl⟩ := arg_u8 h.2.2.1
    exact flipsLaw Hp y1 cl la h1 h2 h3 p hp b

set_option maxRecDepth 100000 in
theorem lifted (os : Os) (started : os.Started) (H : Type) (enc : TypeId × Value → H) :
    ReturnsInHanded {} Try.checked os 5 .any (Rows.journalFlipsSpec.pre6 enc Try.prog Try.f5 Rows.journalFlipsRow.domain false) (Rows.journalFlipsSpec.post enc Try.prog Try.f5 false true false false) := by
  refine returnsInHanded_of_change (C := Try.checked) own started (by kernel_rfl) Try.func5
    (ChangeSpec.witness6 (enc := enc) (C := Try.checked) false ⟨#[], #[.slice none 0 0, .int .u16 0, .int .u8 0], []⟩ 8 (by kernel_rfl) (by kernel_rfl) (by kernel_rfl) (by kernel_rfl)) ?_
  intro W base args ds gs before hval0 hW hcnd _
  have hval : ∀ (j : Nat) t v, Try.f5.params[j]? = some t → args[j]? = some v → Value.okWide Try.prog W .any base t v := hval0
  have hW' := hW
  obtain ⟨p, q, hA0, hV, rfl, hfz, hnd⟩ := hW
  have hA : DataW.TrodAll enc Try.prog W 0 (fun _ => true) true Try.f5.params.toList args.toList ds p := hA0
  have hA1 := hA
  rw [Try.params5] at hA hval
  obtain ⟨rfl, rfl⟩ := trodVars_none hV
  have hcalls := calls_of (ts := [30, 45, 5]) (by kernel_rfl) (fun j t v h1 h2 => hval j t v (by simpa using h1) (by simpa using h2)) hA law
  obtain ⟨v0, vs0, d0, ds0, p0, q0, hargs, rfl, rfl, h0, r0⟩ := trodAll_cons hA
  obtain ⟨v1, vs1, d1, ds1, p1, q1, rfl, rfl, rfl, h1, r1⟩ := trodAll_cons r0
  obtain ⟨v2, vs2, d2, ds2, p2, q2, rfl, rfl, rfl, h2, r2⟩ := trodAll_cons r1
  obtain ⟨rfl, rfl, rfl⟩ := trodAll_nil r2
  refine hcalls.mono fun e W' ⟨he, bel⟩ => ?_
  subst he
  exact ⟨_, rfl, _, _, _, [], _, [], hW', trodAll_mk1 (shut_bool Try.underlying4 _), trodAll_below laidOut bel (by kernel_rfl) hA1, rfl, bel.frame _, fun h => by cases h⟩

theorem over : Rows.journalFlipsRow.holds Try.pinned (OpenSpec.ofChange Rows.journalFlipsSpec) :=
  OpenClaim.holds_of_wide 5 Try.f5 rfl rfl rfl rfl rfl rfl rfl ⟨rfl, rfl, rfl, rfl, rfl⟩ rfl rfl rfl rfl rfl (by kernel_rfl) Try.func5 (by kernel_rfl)
    (of_decide_eq_true (by kernel_rfl)) (by unfold Func.isWrapper; first | (rw [if_pos (by decide +kernel)]; kernel_rfl) | (rw [if_neg (by decide +kernel)]; exact ⟨rfl, rfl⟩))
    (fun os started H enc _ => lifted os started H enc)

theorem proved : Rows.JournalFlipsSaid := over
end Go.Proofs.Ythakgknamfopcaa.journalFlips
#print axioms Go.Proofs.Ythakgknamfopcaa.journalFlips.proved
