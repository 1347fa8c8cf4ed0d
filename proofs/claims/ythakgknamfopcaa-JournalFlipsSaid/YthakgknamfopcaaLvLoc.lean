/- Lv: what one operation hangs on: its operands; which part of the heap. -/
import Derived.Test.YthakgknamfopcaaLvReg
namespace Go.Lv
open Go
set_option linter.unusedVariables false
set_option linter.unusedSimpArgs false

section
variable {P : Program}

theorem evAll_congr {E E' : Env} : ∀ {l : List Operand}, (∀ x ∈ l, E.ev x = E'.ev x) → evAll E l = evAll E' l
  | [], _ => rfl
  | x :: xs, h => by
    simp only [evAll]
    rw [h x (by simp), evAll_congr (fun y hy => h y (List.mem_cons_of_mem _ hy))]
theorem evParts_congr {E E' : Env} : ∀ {l : List (Nat × Operand)}, (∀ x ∈ l.map (·.2), E.ev x = E'.ev x) → evParts E l = evParts E' l
  | [], _ => rfl
  | (i, x) :: xs, h => by
    simp only [evParts]
    rw [h x (by simp), evParts_congr (fun y hy => h y (by simp only [List.map_cons]; exact List.mem_cons_of_mem _ hy))]

theorem lop_env {E E' : Env} {H : LH} {o : Oper} (h : ∀ x ∈ o.op.operands, E.ev x = E'.ev x) : lop P E H o = lop P E' H o := by
  obtain ⟨dst, op, ty, pos, after, guard⟩ := o
  unfold lop
  cases op <;> simp only [Op.operands] at h ⊢
  case build t ps => rw [evParts_congr (E := E) (E' := E') (l := ps.toList) (by simpa using h)]
  case buildSlice t len ps => rw [evParts_congr (E := E) (E' := E') (l := ps.toList) (by simpa using h)]
  case makeFunc fn first captured =>
    rw [evAll_congr (E := E) (E' := E') (l := first.toList) (fun x hx => h x (by simp at hx ⊢; exact .inl hx)),
      evAll_congr (E := E) (E' := E') (l := captured.toList) (fun x hx => h x (by simp at hx ⊢; exact .inr hx))]
  case slice t x lo hi mx =>
    rw [h x (by simp), evAll_congr (E := E) (E' := E') (l := lo.toList) (fun y hy => h y (by simp at hy ⊢; simp [hy])),
      evAll_congr (E := E) (E' := E') (l := hi.toList) (fun y hy => h y (by simp at hy ⊢; simp [hy])),
      evAll_congr (E := E) (E' := E') (l := mx.toList) (fun y hy => h y (by simp at hy ⊢; simp [hy]))]
  case call c =>
    obtain ⟨callee, args, ats⟩ := c
    have hargs : evAll E args.toList = evAll E' args.toList := evAll_congr (fun x hx => h x (by simp [Call.operands]; cases callee <;> simp_all))
    simp only [hargs]
    cases callee with
    | builtin b => rfl
    | value g => simp only [h g (by simp [Call.operands])]
    | invoke r n => simp only [h r (by simp [Call.operands])]
  case defer c =>
    obtain ⟨callee, args, ats⟩ := c
    have hargs : evAll E args.toList = evAll E' args.toList := evAll_congr (fun x hx => h x (by simp [Call.operands]; cases callee <;> simp_all))
    simp only [hargs]
    cases callee with
    | builtin b => cases evAll E' args.toList <;> rfl
    | value g =>
      have hg := h g (by simp [Call.operands])
      cases evAll E' args.toList with
      | none => rfl
      | some al => simp only [hg]
    | invoke r n => cases evAll E' args.toList <;> rfl
  case makeMap t r => cases r <;> rfl
  all_goals first
    | rfl
    | (simp at h; simp only [h]; done)

/-- The block that a value names. -/
def LV.id? : LV → Option Nat
  | .ptr (some (i, _)) => some i
  | .slice (some (i, _)) _ _ => some i
  | _ => none

theorem DV_id {R : Ren} {x : LV} {v : Value} {i : Nat} (h : DV R x v) (hi : x.id? = some i) : ∃ y, R i = some y := by
  cases x with
  | ptr a => cases a with
    | none => simp [LV.id?] at hi
    | some p => obtain ⟨j, o⟩ := p; simp [LV.id?] at hi; subst hi; simp only [DV] at h; obtain ⟨b, d, e, h1, _⟩ := h; exact ⟨_, h1⟩
  | slice a n c => cases a with
    | none => simp [LV.id?] at hi
    | some p =>
      obtain ⟨j, o⟩ := p; simp [LV.id?] at hi; subst hi
      cases c with
      | ex c => simp only [DV] at h; obtain ⟨b, d, e, h1, _⟩ := h; exact ⟨_, h1⟩
      | op c => simp only [DV] at h; obtain ⟨b, d, e, c', h1, _⟩ := h; exact ⟨_, h1⟩
  | _ => simp [LV.id?] at hi

theorem cellsAt_local {H H2 : LH} {i off n : Nat} (h : H2.get i = H.get i) : cellsAt H2 i off n = cellsAt H i off n := by simp only [cellsAt, h]

theorem loadL_local {H H2 : LH} {t : Nat} {a : LV} (h : ∀ i, a.id? = some i → H2.get i = H.get i) : loadL P H2 t a = loadL P H t a := by
  unfold loadL
  split
  · rename_i i off
    have := h i rfl
    simp only [cellsAt_local this]
  · rfl

theorem sliceL_local {H H2 : LH} {t : Nat} {x : LV} {lo hi mx : Option LV} (h : ∀ i, x.id? = some i → H2.get i = H.get i) : sliceL P H2 t x lo hi mx = sliceL P H t x lo hi mx := by
  cases x with
  | slice a n c =>
    cases a with
    | none =>
      unfold sliceL
      cases P.underlying t with
      | none => rfl
      | some d => cases d <;> rfl
    | some p =>
      obtain ⟨i, off⟩ := p
      have e := h i rfl
      have : ∀ off c, knownRoom H2 i off c = knownRoom H i off c := fun off c => by cases c <;> simp [knownRoom, e]
      unfold sliceL
      cases P.underlying t with
      | none => rfl
      | some d => cases d <;> first | rfl | simp only [this]
  | ptr a =>
    unfold sliceL
    cases P.underlying t with
    | none => rfl
    | some d => cases a <;> cases d <;> rfl
  | _ =>
    unfold sliceL
    cases P.underlying t with
    | none => rfl
    | some d => cases d <;> rfl

def OR.setH (H : LH) : OR → OR
  | .val v _ => .val v H
  | r => r
theorem setH_val (H H2 : LH) (x : Option LV) : (x.map fun v => OR.val v H2) = (x.map fun v => OR.val v H).map (OR.setH H2) := by cases x <;> rfl

theorem okind_free' {E : Env} {H H2 : LH} {o : Oper} (hk : okind P o = .free) : lop P E H2 o = (lop P E H o).map (OR.setH H2) := by
  obtain ⟨dst, op, ty, pos, after, guard⟩ := o
  unfold lop
  cases op <;> simp only [okind] at hk ⊢
  case call c =>
    obtain ⟨callee, args, ats⟩ := c
    simp only at hk ⊢
    cases callee with
    | value g => simp at hk
    | invoke r n => simp at hk
    | builtin b =>
      simp only at hk ⊢
      cases evAll E args.toList with
      | none => rfl
      | some al =>
        simp only
        cases b <;> simp only [reduceCtorEq] at hk
        case len =>
          unfold builtinL
          cases hl : ats.toList with
          | nil => cases al <;> rfl
          | cons t ts =>
            cases al with
            | nil => rfl
            | cons x al =>
              cases al with
              | cons y al => rfl
              | nil =>
                rw [hl] at hk
                simp only at hk ⊢
                cases hu : P.underlying t with
                | none => rfl
                | some d =>
                  rw [hu] at hk
                  cases d <;> first
                    | (simp at hk; done)
                    | (cases x <;> rfl)
        case cap =>
          unfold builtinL
          cases ats.toList with
          | nil => cases al <;> rfl
          | cons t ts =>
            cases al with
            | nil => rfl
            | cons x al =>
              cases al with
              | cons y al => rfl
              | nil =>
                simp only
                cases P.underlying t with
                | none => rfl
                | some d =>
                  cases x with
                  | slice a n c => cases c <;> cases d <;> rfl
                  | _ => cases d <;> rfl
        case min =>
          unfold builtinL
          cases al with
          | nil => rfl
          | cons x al => cases x <;> first | rfl | exact setH_val _ _ _
        case max =>
          unfold builtinL
          cases al with
          | nil => rfl
          | cons x al => cases x <;> first | rfl | exact setH_val _ _ _
  case convert s d x =>
    cases E.ev x with
    | none => rfl
    | some xv =>
      simp only [Option.bind_some]
      unfold convertL
      cases hs : P.underlying s with
      | none => rw [hs] at hk; simp at hk
      | some ds =>
        cases hd : P.underlying d with
        | none => cases ds <;> rfl
        | some dd =>
          rw [hs, hd] at hk
          cases ds <;> first
            | (simp at hk; done)
            | (cases dd <;> first
                | (simp at hk; done)
                | (cases xv with
                   | slice a n c => cases a with
                     | none => rfl
                     | some p => rfl
                   | _ => rfl))
  case build t parts =>
    cases zeroT P t with
    | none => rfl
    | some z =>
      cases evParts E parts.toList with
      | none => rfl
      | some ps =>
        simp only
        cases P.underlying t with
        | none => rfl
        | some d =>
          cases d <;> first
            | rfl
            | (simp only
               cases placesAll P _ with
               | none => rfl
               | some pl => exact setH_val _ _ _)
            | (simp only
               cases sizeT P _ with
               | none => rfl
               | some pl => exact setH_val _ _ _)
  all_goals first
    | (cases hk; done)
    | (simp at hk; done)
    | exact setH_val _ _ _
    | ((repeat' split) <;> first | rfl | exact setH_val _ _ _ | (simp_all [OR.setH]; done))
    | (cases E.ev ‹Operand› <;> first | rfl | exact setH_val _ _ _)
    | skip

theorem okind_free {E : Env} {H H' : LH} {o : Oper} {v : LV} (hk : okind P o = .free) (h : lop P E H o = some (.val v H')) : H' = H ∧ ∀ H2, lop P E H2 o = some (.val v H2) := by
  have h1 := okind_free' (E := E) (H := H) (H2 := H) hk
  rw [h] at h1
  simp only [Option.map_some, OR.setH, Option.some.injEq, OR.val.injEq, true_and] at h1
  refine ⟨h1, fun H2 => ?_⟩
  rw [okind_free' (H := H) hk, h]
  rfl

theorem okind_make {E : Env} {o : Oper} (hk : okind P o = .make) : ∃ f : Nat → Option (LV × LO), ∀ H, lop P E H o = (f H.next).map fun p => .val p.1 (H.new p.2) := by
  obtain ⟨dst, op, ty, pos, after, guard⟩ := o
  unfold lop
  cases op <;> simp only [okind] at hk ⊢
  case alloc t => exact ⟨fun n => (zeroT P t).map fun z => (.ptr (some (n, 0)), .cells z.cells t true false), fun H => by cases zeroT P t <;> rfl⟩
  case box t x =>
    exact ⟨fun n => (E.ev x).bind fun z => if z.cells.all oneCell then some (.ptr (some (n, 0)), .cells z.cells t true false) else none, fun H => by
      cases E.ev x with
      | none => rfl
      | some z => simp only [Option.bind_some]; split <;> rfl⟩
  case buildSlice t len parts =>
    refine ⟨fun n => match sliceElem P t, evParts E parts.toList with
      | some e, some ps =>
        match sizeT P e, zeroT P e with
        | some s, some z =>
          if len ≤ 100000 ∧ s ≤ 64 ∧ z.cells.length = s then
            match fillL (fun i => some (i * s, s)) (zerosL len z.cells) ps with
            | some cs => some (.slice (some (n, 0)) len (.ex len), .cells cs e true false)
            | none => none
          else none
        | _, _ => none
      | _, _ => none, fun H => ?_⟩
    repeat' split
    all_goals first
      | rfl
      | (simp_all; done)
  case makeMap t r =>
    cases r with
    | none => exact ⟨fun n => some (.map (some n), .map [] 0), fun H => rfl⟩
    | some x => exact ⟨fun _ => none, fun H => rfl⟩
  case makeSlice t l c =>
    refine ⟨fun n => match E.ev l, E.ev c with
      | some len, some cap =>
        match sliceElem P t, natOf len, natOf cap with
        | some e, some l, some c =>
          match sizeT P e, bytesT P e, zeroT P e with
          | some sz, some by_, some z =>
            if l ≤ c ∧ c * by_ ≤ growMax ∧ c ≤ growMax ∧ 0 < sz ∧ z.cells.length = sz then
              some (.slice (some (n, 0)) l (.ex c), .cells (zerosL c z.cells) e true false)
            else none
          | _, _, _ => none
        | _, _, _ => none
      | _, _ => none, fun H => ?_⟩
    unfold makeSliceL
    repeat' split
    all_goals first
      | rfl
      | (simp_all; done)
  case convert s d x =>
    refine ⟨fun n => (E.ev x).bind fun xv => match P.underlying s, P.underlying d, xv with
      | some _, some (.slice e), .str s =>
        match P.underlying e, sizeT P e, P.info? e with
        | some (.int .u8), some 1, some _ => some (.slice (some (n, 0)) s.length (.op 1), .cells (bytesL s) e true true)
        | _, _, _ => none
      | _, _, _ => none, fun H => ?_⟩
    cases E.ev x with
    | none => rfl
    | some xv =>
      simp only [Option.bind_some]
      unfold convertL
      cases hs : P.underlying s with
      | none => rw [hs] at hk; simp at hk
      | some ds =>
        cases hd : P.underlying d with
        | none => rw [hs, hd] at hk; cases ds <;> simp at hk
        | some dd =>
          rw [hs, hd] at hk
          have hne : ∀ e, ds ≠ .slice e := fun e h => by subst h; cases dd <;> simp at hk
          have hde : ∃ e, dd = .slice e := by
            cases dd <;> first
              | exact ⟨_, rfl⟩
              | (cases ds <;> simp at hk)
          obtain ⟨e, rfl⟩ := hde
          cases xv with
          | str b =>
            simp only
            cases ds <;> first
              | exact absurd rfl (hne _)
              | ((repeat' split) <;> first | rfl | (simp_all; done))
          | _ => cases ds <;> first | exact absurd rfl (hne _) | rfl
  case call c =>
    obtain ⟨callee, args, ats⟩ := c
    simp only at hk
    cases callee with
    | value g => simp at hk
    | invoke r n => simp at hk
    | builtin b =>
      cases b <;> simp only [reduceCtorEq] at hk
      case len =>
        repeat' split at hk
        all_goals cases hk
  all_goals first
    | (cases hk; done)
    | (simp at hk; done)

theorem okind_read {E : Env} {H H' : LH} {o : Oper} {v : LV} (hk : okind P o = .read) (h : lop P E H o = some (.val v H')) :
    H' = H ∧ ∃ x ∈ o.op.operands, ∃ lv, E.ev x = some lv ∧ ∀ H2 : LH, (∀ i, lv.id? = some i → H2.get i = H.get i) → lop P E H2 o = some (.val v H2) := by
  obtain ⟨dst, op, ty, pos, after, guard⟩ := o
  unfold lop at h ⊢
  cases op <;> simp only [okind] at hk h ⊢
  case load t a =>
    obtain ⟨lv, hlv, hb⟩ := Option.bind_eq_some_iff.1 h
    obtain ⟨u, hu, he⟩ := Option.map_eq_some_iff.1 hb
    cases he
    exact ⟨rfl, a, by simp [Op.operands], lv, hlv, fun H2 hl => by rw [hlv]; show Option.map _ (loadL P H2 t lv) = _; rw [loadL_local hl, hu]; rfl⟩
  case slice t x lo hi mx =>
    split at h
    · rename_i xv l1 l2 l3 h1 h2 h3 h4
      obtain ⟨u, hu, he⟩ := Option.map_eq_some_iff.1 h
      cases he
      exact ⟨rfl, x, by simp [Op.operands], xv, h1, fun H2 hl => by rw [sliceL_local hl, hu]; rfl⟩
    · cases h
  case convert s d x =>
    obtain ⟨lv, hlv, hb⟩ := Option.bind_eq_some_iff.1 h
    obtain ⟨⟨u, Hu⟩, hu, he⟩ := Option.map_eq_some_iff.1 hb
    cases he
    refine (?_ : Hu = H ∧ ∀ H2 : LH, (∀ i, lv.id? = some i → H2.get i = H.get i) → convertL P H2 s d lv = some (u, H2)).imp id fun hh =>
      ⟨x, by simp [Op.operands], lv, hlv, fun H2 hl => by simp only [hlv, Option.bind_some, hh H2 hl, Option.map_some]⟩
    have hsl : ∃ e, P.underlying s = some (.slice e) := by
      repeat' split at hk
      all_goals first
        | exact ⟨_, by assumption⟩
        | (cases hk; done)
    obtain ⟨e, hs⟩ := hsl
    have hns : ∀ e2, P.underlying d ≠ some (.slice e2) := fun e2 hd => by rw [hs, hd] at hk; simp at hk
    unfold convertL at hu ⊢
    rw [hs] at hu ⊢
    cases hd : P.underlying d with
    | none => rw [hd] at hu; cases lv <;> simp at hu
    | some dd =>
      rw [hd] at hu hns
      cases lv with
      | int k n =>
        cases dd <;> first
          | (simp at hu; done)
          | (simp only [Option.some.injEq, Prod.mk.injEq] at hu; obtain ⟨rfl, rfl⟩ := hu; exact ⟨rfl, fun _ _ => rfl⟩)
      | str b =>
        cases dd <;> first
          | exact absurd rfl (hns _)
          | (simp at hu; done)
          | (simp only [Option.some.injEq, Prod.mk.injEq] at hu; obtain ⟨rfl, rfl⟩ := hu; exact ⟨rfl, fun _ _ => rfl⟩)
      | emp =>
        cases dd <;> first
          | exact absurd rfl (hns _)
          | (simp at hu; done)
          | (simp only at hu ⊢
             split at hu
             · simp only [Option.some.injEq, Prod.mk.injEq] at hu; obtain ⟨rfl, rfl⟩ := hu; exact ⟨rfl, fun _ _ => rfl⟩
             · cases hu)
      | slice a n c =>
        cases a with
        | none =>
          cases dd <;> first
            | exact absurd rfl (hns _)
            | (simp at hu; done)
            | (simp only at hu ⊢
               split at hu
               · simp only [Option.some.injEq, Prod.mk.injEq] at hu; obtain ⟨rfl, rfl⟩ := hu; exact ⟨rfl, fun _ _ => rfl⟩
               · cases hu)
        | some p =>
          obtain ⟨i, off⟩ := p
          cases dd <;> first
            | exact absurd rfl (hns _)
            | (simp at hu; done)
            | (simp only at hu ⊢
               split at hu
               · obtain ⟨cs, hcs, hb2⟩ := Option.bind_eq_some_iff.1 hu
                 obtain ⟨st, hst, he2⟩ := Option.map_eq_some_iff.1 hb2
                 cases he2
                 exact ⟨rfl, fun H2 hl => by rw [cellsAt_local (hl i rfl), hcs]; simp only [Option.bind_some, hst, Option.map_some]⟩
               · cases hu)
      | _ => cases dd <;> simp at hu
  case call c =>
    obtain ⟨callee, args, ats⟩ := c
    simp only at hk
    cases callee with
    | value g => simp at hk
    | invoke r n => simp at hk
    | builtin b =>
      cases b <;> simp only [reduceCtorEq] at hk
      case len =>
        repeat' split at hk
        all_goals cases hk
  all_goals first
    | (cases hk; done)
    | (simp at hk; done)

end
end Go.Lv
