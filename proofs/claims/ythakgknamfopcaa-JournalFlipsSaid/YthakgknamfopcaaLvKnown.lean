/- Lv: calls that are known: functions of which a theorem says, for every world, that they return a constant. The evaluator with them is sound. -/
import Derived.Test.YthakgknamfopcaaLvMono
import Derived.Test.YthakgknamfopcaaLvTop
namespace Go.Lv
open Go Go.RowKit
set_option linter.unusedVariables false
set_option linter.unusedSimpArgs false

/-- A known call: the function (called without arguments), what it returns, and which package variables have to hold what. -/
structure KnF where
  f : Nat
  v : LV
  gl : List (Nat × List LV)
def glHas (G : Nat) (H : LH) (p : Nat × List LV) : Bool := decide (p.1 < G) && (match H.get p.1 with | some (.cells cs _ _ _) => LV.beqs cs p.2 | _ => false)
def knAt (P : Program) (kn : List KnF) : Task → Option Res
  | .call f [] H =>
    match kn.find? (fun x => x.f == f) with
    | some x => if x.gl.all (glHas P.globals.size H) then some (.out (.ret x.v) H) else none
    | none => none
  | _ => none
def stepK (P : Program) (kn : List KnF) (rec : Task → Option Res) (t : Task) : Option Res :=
  match knAt P kn t with
  | some r => some r
  | none => runStep P rec t
def runK (P : Program) (kn : List KnF) : Nat → Task → Option Res
  | 0 => fun _ => none
  | n + 1 => stepK P kn (runK P kn n)

section
variable {P : Program} {kn : List KnF}

theorem stepK_frame {rec : Task → Option Res} {K : List LItem} {S : FS} : stepK P kn rec (.frame K S) = runStep P rec (.frame K S) := rfl
theorem stepK_round {rec : Task → Option Res} {l : Nat} {args : List LV} {H : LH} : stepK P kn rec (.round l args H) = runStep P rec (.round l args H) := rfl
theorem stepK_defs {rec : Task → Option Res} {S : FS} {p : Option (LV × Bool)} : stepK P kn rec (.defs S p) = runStep P rec (.defs S p) := rfl

theorem stepK_mono {rec rec' : Task → Option Res} (hm : Sub rec rec') : Sub (stepK P kn rec) (stepK P kn rec') := by
  intro t r h
  unfold stepK at h ⊢
  split at h
  · rename_i x hx
    exact h
  · rename_i hx
    exact runStep_mono hm t r h
theorem runK_succ : ∀ n, Sub (runK P kn n) (runK P kn (n + 1))
  | 0 => fun t r h => by simp [runK] at h
  | n + 1 => stepK_mono (runK_succ n)
theorem runK_le {n m : Nat} (h : n ≤ m) : Sub (runK P kn n) (runK P kn m) := by
  induction h with
  | refl => exact fun t r h => h
  | step _ ih => exact fun t r h => runK_succ _ t r (ih t r h)

theorem knAt_spec {t : Task} {r : Res} (h : knAt P kn t = some r) : ∃ x H, x ∈ kn ∧ t = .call x.f [] H ∧ x.gl.all (glHas P.globals.size H) = true ∧ r = .out (.ret x.v) H := by
  unfold knAt at h
  split at h
  · rename_i f H
    split at h
    · rename_i x hx
      split at h
      · rename_i hg
        cases h
        have h1 := List.mem_of_find?_eq_some hx
        have h2 := List.find?_some hx
        simp only [beq_iff_eq] at h2
        subst h2
        exact ⟨x, H, h1, rfl, hg, rfl⟩
      · cases h
    · cases h
  · cases h

theorem stepK_next {rec : Task → Option Res} (ih : ∀ t r, rec t = some r → t.next ≤ r.next) : ∀ t r, stepK P kn rec t = some r → t.next ≤ r.next := fun t r h => by
  unfold stepK at h
  split at h
  · rename_i r' hx
    cases h
    obtain ⟨x, H, _, rfl, _, rfl⟩ := knAt_spec hx
    exact Nat.le_refl _
  · cases t with
    | frame K S => exact frame_next ih h
    | call f args H => exact call_next ih h
    | round l args H => exact round_next ih h
    | defs S p => exact defs_next ih h
theorem runK_next : ∀ (n : Nat) (t : Task) (r : Res), runK P kn n t = some r → t.next ≤ r.next
  | 0, _, _, h => by simp [runK] at h
  | n + 1, t, r, h => stepK_next (runK_next n) t r h

/-- What is to be known of the known calls. -/
def KnOk (P : Program) (kn : List KnF) : Prop := ∀ x ∈ kn, ∀ (R : Ren) (w : World), (∀ i cs, (i, cs) ∈ x.gl → DO R w.heap[i]? 0 cs.length (.cells cs 0 false false)) →
  Calls P x.f #[] w fun e w' => (∃ y, e = .returned y ∧ DV R x.v y) ∧ Below w.heap.size w w'

theorem known_ok (hK : KnOk P kn) {rec : Task → Option Res} (h : CallOk P (runStep P rec)) : CallOk P (stepK P kn rec) := by
  intro f args H o H' hs R w av ha hd hg hl hf
  unfold stepK at hs
  split at hs
  · rename_i r hx
    cases hs
    obtain ⟨x, H0, hx1, he, hgl, hr⟩ := knAt_spec hx
    cases he
    cases hr
    have hav : av = #[] := by
      have := DVs_length ha
      exact Array.eq_empty_of_size_eq_zero (by simpa using this)
    subst hav
    have hcells : ∀ i cs, (i, cs) ∈ x.gl → DO R w.heap[i]? 0 cs.length (.cells cs 0 false false) := fun i cs hi => by
      rw [List.all_eq_true] at hgl
      have h1 := hgl _ hi
      simp only [glHas, Bool.and_eq_true, decide_eq_true_eq] at h1
      obtain ⟨h1, h2⟩ := h1
      split at h2
      · rename_i cs' el own opn hget
        have := LV.beqs_eq _ _ h2
        subst this
        obtain ⟨b, d, e, hr, hdo⟩ := hd.obj _ _ hget
        obtain ⟨e', hg'⟩ := hg i h1
        rw [hg'] at hr
        cases hr
        obtain ⟨arr, el', fr, k1, k2, k3, k4, k5⟩ := hdo
        exact ⟨arr, el', fr, k1, by omega, by omega, k4, fun hh => by cases hh⟩
      · cases h2
    refine (hK x hx1 R w hcells).mono fun e w' hpost => ?_
    obtain ⟨⟨y, rfl, hy⟩, hb⟩ := hpost
    refine ⟨R, ⟨RLe.refl R, fun _ _ h => .inl h, Nat.le_refl _, hb.size, fun b hb' _ => hb.block b hb', fun _ h => .inl h, hb.os, hb.tape, hb.output⟩, LGo.refl _ _, ⟨fun i o hi => ?_, hd.inj⟩, hy⟩
    obtain ⟨b, d, e, h1, h2⟩ := hd.obj i o hi
    exact ⟨b, d, e, h1, by rw [hb.block b h2.lt]; exact h2⟩
  · exact h f args H o H' hs R w av ha hd hg hl hf

theorem runK_ok (hP : progOk P = true) (hK : KnOk P kn) : ∀ n, FrameOk P (runK P kn n) ∧ CallOk P (runK P kn n) ∧ RoundOk P (runK P kn n) ∧ DefsOk P (runK P kn n)
  | 0 => ⟨fun _ _ _ h => by simp [runK] at h, fun _ _ _ _ _ h => by simp [runK] at h, fun _ _ _ _ _ h => by simp [runK] at h, fun _ _ _ _ h => by simp [runK] at h⟩
  | n + 1 =>
    have ⟨hF, hC, hR, hD⟩ := runK_ok hP hK n
    have hN := runK_next (P := P) (kn := kn) n
    ⟨frame_ok (draw_ok hP hC hR hN) hC hR hF hN, known_ok hK (call_ok hP hF hD hN), round_ok hF, defs_ok hP hF hD hN⟩

/-- The evaluator with known calls is sound. -/
theorem callK_sound (hP : progOk P = true) (hK : KnOk P kn) {n f : Nat} {args : List LV} {h h' : LH} {o : LOut} (hrun : runK P kn n (.call f args h) = some (.out o h')) {R : Ren} {w : World} {av : Array Value}
    (ha : DVs R args av.toList) (hd : Den R h w) (hg : GlobR P R) (hl : LoopsOk P h) (hf : Fresh R h.next h'.next) : Calls P f av w (OutPost P R h w o h') :=
  (runK_ok hP hK n).2.1 _ _ _ _ _ hrun R w av ha hd hg hl hf
end
end Go.Lv
