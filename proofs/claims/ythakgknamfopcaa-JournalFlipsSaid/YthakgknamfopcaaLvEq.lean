/- Lv: operations on two values (==, numbers, strings) run in the model as the evaluator says. -/
import Derived.Test.YthakgknamfopcaaLvSem
import Derived.Laws.StructEq
import Derived.Laws.Strings
import Derived.ChangeKeysEq
namespace Go.Lv
open Go
set_option linter.unusedVariables false
set_option linter.unusedSimpArgs false

section
variable {P : Program} {w : World}

theorem rn_part {R : Ren} {t : Nat} {cs : List LV} {off : Nat} {x : LV} (hx : partL P t cs off = some x) {arr : Array Value} (ha : DVs R cs arr.toList) :
    ∃ v, (part t arr off).run P w = .ok v w ∧ DV R x v := by
  unfold partL at hx
  split at hx
  · rename_i hagg
    obtain ⟨n, hn, hx⟩ := Option.bind_eq_some_iff.1 hx
    split at hx
    · rename_i hle
      cases hx
      have hlen := DVs_length ha
      refine ⟨.agg (arr.extract off (off + n)), by simp [part, rn_isAgg hagg, rn_sizeOf hn], ?_⟩
      simp only [DV]
      refine ⟨_, rfl, ?_⟩
      have := DVs_take n (DVs_drop off ha)
      have e : (arr.extract off (off + n)).toList = (arr.toList.drop off).take n := by
        rw [Array.toList_extract, List.extract_eq_drop_take']
        simp [List.drop_take]
      rw [e]; exact this
    · cases hx
  · rename_i hagg
    obtain ⟨v, hv, hd⟩ := DVs_get ha _ _ hx
    exact ⟨v, by simp [part, rn_isAgg hagg, show arr[off]? = some v by simpa using hv], hd⟩
  · cases hx

theorem rn_eqFields {R : Ren} {d : Nat} (ih : ∀ (t : Nat) (x y : LV) (r : Bool) (xv yv : Value), leq P d t x y = some r → DV R x xv → DV R y yv → ∀ m, (Op.equalIn (d + m) t xv yv).run P w = .ok r w)
    {xs ys : List LV} {xa ya : Array Value} (hx : DVs R xs xa.toList) (hy : DVs R ys ya.toList) (m : Nat) : ∀ (fs : List Field) (r : Bool),
    foldO (fun f : Field => if f.name ≠ "_" then
          match partL P f.type xs f.offset, partL P f.type ys f.offset with
          | some a, some b => leq P d f.type a b
          | _, _ => none
        else some true) fs = some r → (Op.eqFields (d + m) xa ya fs).run P w = .ok r w
  | [], r, h => by simp [foldO] at h; subst h; simp [Op.eqFields]
  | f :: fs, r, h => by
    simp only [foldO] at h
    by_cases hn : f.name = "_"
    · simp only [hn, ne_eq, not_true_eq_false, if_false] at h
      simp only [Op.eqFields, hn, ne_eq, not_true_eq_false, if_false]
      exact rn_eqFields ih hx hy m fs r h
    · simp only [hn, ne_eq, not_false_eq_true, if_true] at h
      simp only [Op.eqFields, hn, ne_eq, not_false_eq_true, if_true, Sem.run_bind]
      cases ha : partL P f.type xs f.offset with
      | none => simp [ha] at h
      | some a =>
        cases hb : partL P f.type ys f.offset with
        | none => simp [ha, hb] at h
        | some b =>
          simp only [ha, hb] at h
          obtain ⟨av, ra, da⟩ := rn_part (P := P) (w := w) ha hx
          obtain ⟨bv, rb, db⟩ := rn_part (P := P) (w := w) hb hy
          simp only [ra, rb, Result.andThen_ok]
          cases hl : leq P d f.type a b with
          | none => simp [hl] at h
          | some q =>
            simp only [hl] at h
            rw [ih _ _ _ _ _ _ hl da db m]
            cases q
            · simp at h; subst h; simp
            · simp only [Result.andThen_ok, Bool.not_true, Bool.false_eq_true, if_false]
              exact rn_eqFields ih hx hy m fs r h

theorem rn_eqItems {R : Ren} {d : Nat} (ih : ∀ (t : Nat) (x y : LV) (r : Bool) (xv yv : Value), leq P d t x y = some r → DV R x xv → DV R y yv → ∀ m, (Op.equalIn (d + m) t xv yv).run P w = .ok r w)
    {xs ys : List LV} {xa ya : Array Value} (hx : DVs R xs xa.toList) (hy : DVs R ys ya.toList) (m e s : Nat) : ∀ (is : List Nat) (r : Bool),
    foldO (fun i => match partL P e xs (i * s), partL P e ys (i * s) with
          | some a, some b => leq P d e a b
          | _, _ => none) is = some r → (Op.eqItems (d + m) e s xa ya is).run P w = .ok r w
  | [], r, h => by simp [foldO] at h; subst h; simp [Op.eqItems]
  | i :: is, r, h => by
    simp only [foldO] at h
    simp only [Op.eqItems, Sem.run_bind]
    cases ha : partL P e xs (i * s) with
    | none => simp [ha] at h
    | some a =>
      cases hb : partL P e ys (i * s) with
      | none => simp [ha, hb] at h
      | some b =>
        simp only [ha, hb] at h
        obtain ⟨av, ra, da⟩ := rn_part (P := P) (w := w) ha hx
        obtain ⟨bv, rb, db⟩ := rn_part (P := P) (w := w) hb hy
        simp only [ra, rb, Result.andThen_ok]
        cases hl : leq P d e a b with
        | none => simp [hl] at h
        | some q =>
          simp only [hl] at h
          rw [ih _ _ _ _ _ _ hl da db m]
          cases q
          · simp at h; subst h; simp
          · simp only [Result.andThen_ok, Bool.not_true, Bool.false_eq_true, if_false]
            exact rn_eqItems ih hx hy m e s is r h

set_option maxHeartbeats 2000000 in
theorem leq_sound {R : Ren} : ∀ (d : Nat) (t : Nat) (x y : LV) (r : Bool) (xv yv : Value), leq P d t x y = some r → DV R x xv → DV R y yv →
    ∀ m, (Op.equalIn (d + m) t xv yv).run P w = .ok r w
  | 0, t, x, y, r, xv, yv, h, _, _, m => by simp [leq] at h
  | d + 1, t, x, y, r, xv, yv, h, hx, hy, m => by
    have ih := leq_sound (R := R) d
    rw [show d + 1 + m = (d + m) + 1 by omega]
    unfold leq at h
    split at h
    · rename_i ht
      simp only [DV] at hx hy; subst hx hy; cases h
      simp only [Op.equalIn, Sem.run_bind, rn_underlying ht, Result.andThen_ok, Sem.run_pure, Option.isNone_none, Option.isNone_some]
    · rename_i ht
      simp only [DV] at hx hy; subst hx hy
      split at h
      · rename_i hk; cases h; subst hk; simp only [Op.equalIn, Sem.run_bind, rn_underlying ht, Result.andThen_ok, if_true, Sem.run_pure]
      · cases h
    · rename_i ht
      simp only [DV] at hx hy; subst hx hy; cases h
      simp only [Op.equalIn, Sem.run_bind, rn_underlying ht, Result.andThen_ok, Sem.run_pure]
      rw [beq_toListBytes, ByteArray.toList_mk, ByteArray.toList_mk]
    · rename_i b ht
      simp only [DV] at hx; subst hx; cases h
      cases b with
      | none => simp only [DV] at hy; subst hy; simp only [Op.equalIn, Sem.run_bind, rn_underlying ht, Result.andThen_ok, Sem.run_pure, Option.isNone_none, Option.isNone_some]
      | some p => obtain ⟨i, o⟩ := p; simp only [DV] at hy; obtain ⟨b', d', e', _, rfl⟩ := hy; simp only [Op.equalIn, Sem.run_bind, rn_underlying ht, Result.andThen_ok, Sem.run_pure, Option.isNone_none, Option.isNone_some]
    · rename_i p ht
      obtain ⟨i, o⟩ := p
      simp only [DV] at hx hy; obtain ⟨b', d', e', _, rfl⟩ := hx; subst hy; cases h
      simp only [Op.equalIn, Sem.run_bind, rn_underlying ht, Result.andThen_ok, Sem.run_pure, Option.isNone_none, Option.isNone_some]
    · rename_i ht
      simp only [DV] at hx hy; subst hx hy; cases h
      simp only [Op.equalIn, Sem.run_bind, rn_underlying ht, Result.andThen_ok, Sem.run_pure, Option.isNone_none, Option.isNone_some]
    · rename_i ht
      simp only [DV] at hx hy; obtain ⟨u, rfl, _⟩ := hy; subst hx; cases h
      simp only [Op.equalIn, Sem.run_bind, rn_underlying ht, Result.andThen_ok, Sem.run_pure, Option.isNone_none, Option.isNone_some]
    · rename_i ht
      simp only [DV] at hx hy; obtain ⟨u, rfl, _⟩ := hx; subst hy; cases h
      simp only [Op.equalIn, Sem.run_bind, rn_underlying ht, Result.andThen_ok, Sem.run_pure, Option.isNone_none, Option.isNone_some]
    · rename_i tx vx ty vy ht
      simp only [DV] at hx hy
      obtain ⟨u, rfl, hu⟩ := hx
      obtain ⟨u', rfl, hu'⟩ := hy
      split at h
      · rename_i hne
        cases h
        simp only [Op.equalIn, Sem.run_bind, rn_underlying ht, Result.andThen_ok, Sem.run_pure, ne_eq, hne, not_false_eq_true, if_true]
      · rename_i hne
        have hne : tx = ty := Decidable.not_not.1 hne
        subst hne
        split at h
        · rename_i i hi
          split at h
          · rename_i hc
            simp only [Op.equalIn, Sem.run_bind, rn_underlying ht, Result.andThen_ok, ne_eq, not_true_eq_false, if_false, rn_typeInfo hi, hc, Bool.not_true, Bool.false_eq_true, Sem.run_pure]
            exact ih _ _ _ _ _ _ h hu hu' m
          · cases h
        · cases h
    · rename_i fs xs ys ht
      simp only [DV] at hx hy
      obtain ⟨xa, rfl, hxa⟩ := hx
      obtain ⟨ya, rfl, hya⟩ := hy
      split at h
      · cases h
      · rename_i hs
        have hf : P.fieldsOf t = fs := by simp [Program.fieldsOf, ht]
        rw [run_equalIn_struct w (d + m) t xa ya (by rw [hf]; exact ht) (by simpa using hs), hf]
        exact rn_eqFields ih hxa hya m _ _ h
    · rename_i n e xs ys ht
      simp only [DV] at hx hy
      obtain ⟨xa, rfl, hxa⟩ := hx
      obtain ⟨ya, rfl, hya⟩ := hy
      split at h
      · rename_i s hs
        obtain ⟨i, hi, his⟩ := Option.map_eq_some_iff.1 (show (P.info? e).map (·.size) = some s from hs)
        rw [run_equalIn_array w (d + m) xa ya ht hi]
        have hc : P.cellsOf e = s := by simp [Program.cellsOf, hi, his]
        rw [hc]
        exact rn_eqItems ih hxa hya m e s _ _ h
      · cases h
    · rename_i b _ _ ht
      simp only [DV] at hx; obtain ⟨rfl, hx2⟩ := hx; clear hx2; cases h
      cases b with
      | none => simp only [DV] at hy; obtain ⟨rfl, _⟩ := hy; simp only [Op.equalIn, Sem.run_bind, rn_underlying ht, Result.andThen_ok, Sem.run_pure, Option.isNone_none, Option.isNone_some]
      | some p =>
        obtain ⟨i, o⟩ := p
        rename_i n c
        cases c with
        | ex c => simp only [DV] at hy; obtain ⟨b', d', e', _, rfl⟩ := hy; simp only [Op.equalIn, Sem.run_bind, rn_underlying ht, Result.andThen_ok, Sem.run_pure, Option.isNone_none, Option.isNone_some]
        | op c => simp only [DV] at hy; obtain ⟨b', d', e', c', _, _, rfl⟩ := hy; simp only [Op.equalIn, Sem.run_bind, rn_underlying ht, Result.andThen_ok, Sem.run_pure, Option.isNone_none, Option.isNone_some]
    · rename_i p n c _ _ ht
      obtain ⟨i, o⟩ := p
      simp only [DV] at hy; obtain ⟨rfl, _⟩ := hy; cases h
      cases c with
      | ex c => simp only [DV] at hx; obtain ⟨b', d', e', _, rfl⟩ := hx; simp only [Op.equalIn, Sem.run_bind, rn_underlying ht, Result.andThen_ok, Sem.run_pure, Option.isNone_none, Option.isNone_some]
      | op c => simp only [DV] at hx; obtain ⟨b', d', e', c', _, _, rfl⟩ := hx; simp only [Op.equalIn, Sem.run_bind, rn_underlying ht, Result.andThen_ok, Sem.run_pure, Option.isNone_none, Option.isNone_some]
    · rename_i ht
      simp only [DV] at hx hy; obtain ⟨rfl, _⟩ := hx; obtain ⟨a, c, rfl⟩ := hy; cases h
      simp only [Op.equalIn, Sem.run_bind, rn_underlying ht, Result.andThen_ok, Sem.run_pure, Option.isNone_none, Option.isNone_some]
    · rename_i ht
      simp only [DV] at hx hy; obtain ⟨rfl, _⟩ := hy; obtain ⟨a, c, rfl⟩ := hx; cases h
      simp only [Op.equalIn, Sem.run_bind, rn_underlying ht, Result.andThen_ok, Sem.run_pure, Option.isNone_none, Option.isNone_some]
    · rename_i b ht
      simp only [DV] at hx; subst hx; cases h
      cases b with
      | none => simp only [DV] at hy; subst hy; simp only [Op.equalIn, Sem.run_bind, rn_underlying ht, Result.andThen_ok, Sem.run_pure, Option.isNone_none, Option.isNone_some]
      | some p => simp only [DV] at hy; obtain ⟨b', d', e', _, rfl⟩ := hy; simp only [Op.equalIn, Sem.run_bind, rn_underlying ht, Result.andThen_ok, Sem.run_pure, Option.isNone_none, Option.isNone_some]
    · rename_i p ht
      simp only [DV] at hx hy; obtain ⟨b', d', e', _, rfl⟩ := hx; subst hy; cases h
      simp only [Op.equalIn, Sem.run_bind, rn_underlying ht, Result.andThen_ok, Sem.run_pure, Option.isNone_none, Option.isNone_some]
    · rename_i ht
      simp only [DV] at hx hy; subst hx hy; cases h
      simp only [Op.equalIn, Sem.run_bind, rn_underlying ht, Result.andThen_ok, Sem.run_pure, Option.isNone_none, Option.isNone_some]
    · rename_i ht
      simp only [DV] at hx hy; subst hx; obtain ⟨a, c, rfl, _⟩ := hy; cases h
      simp only [Op.equalIn, Sem.run_bind, rn_underlying ht, Result.andThen_ok, Sem.run_pure, Option.isNone_none, Option.isNone_some]
    · rename_i ht
      simp only [DV] at hx hy; subst hy; obtain ⟨a, c, rfl, _⟩ := hx; cases h
      simp only [Op.equalIn, Sem.run_bind, rn_underlying ht, Result.andThen_ok, Sem.run_pure, Option.isNone_none, Option.isNone_some]
    · rename_i ht
      simp only [DV] at hx hy; subst hy; obtain ⟨a, c, e, _, rfl⟩ := hx; cases h
      simp only [Op.equalIn, Sem.run_bind, rn_underlying ht, Result.andThen_ok, Sem.run_pure, Option.isNone_none, Option.isNone_some]
    · rename_i ht
      simp only [DV] at hx hy; subst hx; obtain ⟨a, c, e, _, rfl⟩ := hy; cases h
      simp only [Op.equalIn, Sem.run_bind, rn_underlying ht, Result.andThen_ok, Sem.run_pure, Option.isNone_none, Option.isNone_some]
    · cases h

theorem isConstO_iff (x : Operand) : isConstO x = (match x with | .const _ => true | _ => false) := by cases x <;> rfl

theorem rn_eqGuard {R : Ren} {op : BinOp} {t : Nat} {x y : Operand} {a b : LV} {av bv : Value} (h : guardOk P t x y a b = true) (ha : DV R a av) (hb : DV R b bv) :
    (eqGuard op t x y av bv).run P w = .ok () w := by
  by_cases h1 : av = .nilIface ∧ bv = .nilIface
  · obtain ⟨rfl, rfl⟩ := h1
    have ea : a = .nilIface := by
      cases a with
      | ptr p => cases p <;> simp [DV] at ha
      | slice p n c => cases p with
        | none => simp [DV] at ha
        | some p => cases c <;> simp [DV] at ha
      | map r => cases r <;> simp [DV] at ha
      | _ => simp [DV] at ha <;> rfl
    have eb : b = .nilIface := by
      cases b with
      | ptr p => cases p <;> simp [DV] at hb
      | slice p n c => cases p with
        | none => simp [DV] at hb
        | some p => cases c <;> simp [DV] at hb
      | map r => cases r <;> simp [DV] at hb
      | _ => simp [DV] at hb <;> rfl
    subst ea eb
    simp only [guardOk, Bool.or_eq_true] at h
    cases op <;> simp [eqGuard] <;> (cases x <;> simp [isConstO] at h ⊢) <;> (cases y <;> simp at h ⊢)
  · by_cases h2 : ∃ xa ya, av = .agg xa ∧ bv = .agg ya
    · obtain ⟨xa, ya, rfl, rfl⟩ := h2
      have ea : ∃ l, a = .agg l := by
        cases a with
        | ptr p => cases p <;> simp [DV] at ha
        | slice p n c => cases p with
          | none => simp [DV] at ha
          | some p => cases c <;> simp [DV] at ha
        | map r => cases r <;> simp [DV] at ha
        | agg l => exact ⟨l, rfl⟩
        | _ => simp [DV] at ha
      have eb : ∃ l, b = .agg l := by
        cases b with
        | ptr p => cases p <;> simp [DV] at hb
        | slice p n c => cases p with
          | none => simp [DV] at hb
          | some p => cases c <;> simp [DV] at hb
        | map r => cases r <;> simp [DV] at hb
        | agg l => exact ⟨l, rfl⟩
        | _ => simp [DV] at hb
      obtain ⟨l, rfl⟩ := ea
      obtain ⟨l', rfl⟩ := eb
      simp only [guardOk, Bool.not_eq_true'] at h
      exact run_eqGuard_agg w op t x y xa ya h
    · unfold eqGuard
      split
      all_goals first
        | (simp only [Bool.not_false, if_true]; rfl)
        | (simp only [Bool.not_true, Bool.false_eq_true, if_false]
           split
           · exact absurd ⟨rfl, rfl⟩ h1
           · exact absurd ⟨_, _, rfl, rfl⟩ h2
           · rfl)

theorem lcmp_sound {R : Ren} {op : BinOp} {x y : Int} {r : LV} (h : lcmp op x y = some r) : ∃ v, (Op.intCmp op x y).run P w = .ok v w ∧ DV R r v := by
  cases op <;> simp [lcmp] at h <;> subst h <;> exact ⟨_, rfl, by simp [DV]⟩

theorem lbits_sound {R : Ren} {op : BinOp} {k : IntKind} {x y : Int} {r : LV} (h : lbits op k x y = some r) : ∃ v, (Op.intBits op k x y).run P w = .ok v w ∧ DV R r v := by
  cases op <;> simp [lbits] at h <;> subst h <;> exact ⟨_, rfl, by simp [DV]⟩

theorem lstr_sound {R : Ren} {op : BinOp} {x y : List UInt8} {r : LV} (h : lstr op x y = some r) :
    ∃ v, (Op.stringOp op ⟨x.toArray⟩ ⟨y.toArray⟩).run P w = .ok v w ∧ DV R r v := by
  cases op <;> simp [lstr] at h
  case add =>
    obtain ⟨hl, rfl⟩ := h
    refine ⟨.string (⟨x.toArray⟩ ++ ⟨y.toArray⟩), ?_, ?_⟩
    · simp only [Op.stringOp]
      rw [if_neg]
      · rfl
      · have e1 : (⟨x.toArray⟩ : ByteArray).size = x.length := by simp [ByteArray.size]
        have e2 : (⟨y.toArray⟩ : ByteArray).size = y.length := by simp [ByteArray.size]
        rw [e1, e2]
        simp [IntKind.max, IntKind.signed, IntKind.bits]
        omega
    · simp only [DV]
      congr 1
  all_goals
    subst h
    exact ⟨_, rfl, by simp [DV, ByteArray.toList_mk]⟩

/-- '==' and '!=' on what are no two numbers and no two strings. -/
theorem binOp_eq_other {t : Nat} {av bv : Value} (h1 : ∀ k a k' b, av = .int k a → bv = .int k' b → False) (h2 : ∀ k a k' b, av = .float k a → bv = .float k' b → False)
    (h3 : ∀ k a b k' c d, av = .complex k a b → bv = .complex k' c d → False) (h4 : ∀ a b, av = .string a → bv = .string b → False) :
    binOp .eql t av bv = (do pure (.bool (← Op.equal t av bv))) ∧ binOp .neq t av bv = (do pure (.bool (!(← Op.equal t av bv)))) := by
  constructor
  all_goals
    unfold binOp
    split
    all_goals first
      | rfl
      | (exact (h1 _ _ _ _ rfl rfl).elim)
      | (exact (h2 _ _ _ _ rfl rfl).elim)
      | (exact (h3 _ _ _ _ _ _ rfl rfl).elim)
      | (exact (h4 _ _ rfl rfl).elim)
      | (simp_all; done)

/-- No logical value denotes a float or a complex number. -/
theorem DV_notFloat {R : Ren} {a : LV} {k : FloatKind} {n : Nat} (h : DV R a (.float k n)) : False := by
  cases a with
  | ptr p => cases p <;> simp [DV] at h
  | slice p n c => cases p with
    | none => simp [DV] at h
    | some p => cases c <;> simp [DV] at h
  | map r => cases r <;> simp [DV] at h
  | _ => simp [DV] at h
theorem DV_notComplex {R : Ren} {a : LV} {k : FloatKind} {n m : Nat} (h : DV R a (.complex k n m)) : False := by
  cases a with
  | ptr p => cases p <;> simp [DV] at h
  | slice p n c => cases p with
    | none => simp [DV] at h
    | some p => cases c <;> simp [DV] at h
  | map r => cases r <;> simp [DV] at h
  | _ => simp [DV] at h
theorem DV_int {R : Ren} {a : LV} {k : IntKind} {n : Int} (h : DV R a (.int k n)) : a = .int k n := by
  cases a with
  | ptr p => cases p <;> simp [DV] at h
  | slice p n c => cases p with
    | none => simp [DV] at h
    | some p => cases c <;> simp [DV] at h
  | map r => cases r <;> simp [DV] at h
  | int k n => simp [DV] at h; rw [h.1, h.2]
  | _ => simp [DV] at h
theorem DV_string {R : Ren} {a : LV} {s : ByteArray} (h : DV R a (.string s)) : ∃ l, a = .str l := by
  cases a with
  | ptr p => cases p <;> simp [DV] at h
  | slice p n c => cases p with
    | none => simp [DV] at h
    | some p => cases c <;> simp [DV] at h
  | map r => cases r <;> simp [DV] at h
  | str l => exact ⟨l, rfl⟩
  | _ => simp [DV] at h

theorem lbin_sound {R : Ren} {op : BinOp} {t : Nat} {x y : Operand} {a b r : LV} {av bv : Value} (h : lbin P op t x y a b = some r) (ha : DV R a av) (hb : DV R b bv) :
    ∃ v, (do eqGuard op t x y av bv; binOp op t av bv : Sem Value).run P w = .ok v w ∧ DV R r v := by
  unfold lbin at h
  split at h
  · rename_i k m k' n
    simp only [DV] at ha hb; subst ha hb
    have hg : (eqGuard op t x y (.int k m) (.int k' n)).run P w = .ok () w := by cases op <;> simp [eqGuard]
    rw [Sem.run_bind, hg, Result.andThen_ok]
    split at h
    · split at h
      · cases h
      · rename_i hn
        cases h
        exact ⟨_, by simp [binOp, Op.shift, hn]; rfl, by simp [DV]⟩
    · split at h
      · cases h
      · rename_i hn
        cases h
        exact ⟨_, by simp [binOp, Op.shift, hn]; rfl, by simp [DV]⟩
    · rename_i h1 h2
      split at h
      · rename_i hk
        subst hk
        cases op <;> simp only [lint] at h
        case shl => exact absurd rfl h1
        case shr => exact absurd rfl h2
        case add => cases h; exact ⟨_, by simp [binOp, Op.intArith]; rfl, by simp [DV]⟩
        case sub => cases h; exact ⟨_, by simp [binOp, Op.intArith]; rfl, by simp [DV]⟩
        case mul => cases h; exact ⟨_, by simp [binOp, Op.intArith]; rfl, by simp [DV]⟩
        case quo =>
          split at h
          · cases h
          · rename_i hy; cases h; exact ⟨_, by simp [binOp, Op.intDiv, hy]; rfl, by simp [DV]⟩
        case rem =>
          split at h
          · cases h
          · rename_i hy; cases h; exact ⟨_, by simp [binOp, Op.intDiv, hy]; rfl, by simp [DV]⟩
        case and => simpa [binOp] using lbits_sound (P := P) (w := w) (R := R) h
        case or => simpa [binOp] using lbits_sound (P := P) (w := w) (R := R) h
        case xor => simpa [binOp] using lbits_sound (P := P) (w := w) (R := R) h
        case andNot => simpa [binOp] using lbits_sound (P := P) (w := w) (R := R) h
        all_goals simpa [binOp] using lcmp_sound (P := P) (w := w) (R := R) h
      · cases h
  · rename_i m n
    simp only [DV] at ha hb; subst ha hb
    have hg : (eqGuard op t x y (.string ⟨m.toArray⟩) (.string ⟨n.toArray⟩)).run P w = .ok () w := by cases op <;> simp [eqGuard]
    rw [Sem.run_bind, hg, Result.andThen_ok]
    have : binOp op t (.string ⟨m.toArray⟩) (.string ⟨n.toArray⟩) = Op.stringOp op ⟨m.toArray⟩ ⟨n.toArray⟩ := by cases op <;> rfl
    rw [this]
    exact lstr_sound h
  · rename_i hni hns
    have hoth := binOp_eq_other (t := t) (av := av) (bv := bv)
      (fun k m k' n e1 e2 => by subst e1 e2; exact hni _ _ _ _ (DV_int ha) (DV_int hb))
      (fun k m k' n e1 e2 => by subst e1; exact DV_notFloat ha)
      (fun k m _ k' n _ e1 e2 => by subst e1; exact DV_notComplex ha)
      (fun m n e1 e2 => by
        subst e1 e2
        obtain ⟨l, rfl⟩ := DV_string ha
        obtain ⟨l', rfl⟩ := DV_string hb
        exact hns _ _ rfl rfl)
    split at h
    · split at h
      · rename_i hg
        obtain ⟨q, hq, rfl⟩ := Option.map_eq_some_iff.1 h
        rw [Sem.run_bind, rn_eqGuard hg ha hb, Result.andThen_ok, hoth.1]
        have he := leq_sound (P := P) (w := w) (R := R) 64 t a b q av bv hq ha hb 9936
        refine ⟨.bool q, ?_, by simp [DV]⟩
        simp only [Op.equal, Op.maxDepth, Sem.run_bind]
        rw [show (10000 : Nat) = 64 + 9936 from rfl, he]; simp
      · cases h
    · split at h
      · rename_i hg
        obtain ⟨q, hq, rfl⟩ := Option.map_eq_some_iff.1 h
        rw [Sem.run_bind, rn_eqGuard hg ha hb, Result.andThen_ok, hoth.2]
        have he := leq_sound (P := P) (w := w) (R := R) 64 t a b q av bv hq ha hb 9936
        refine ⟨.bool (!q), ?_, by simp [DV]⟩
        simp only [Op.equal, Op.maxDepth, Sem.run_bind]
        rw [show (10000 : Nat) = 64 + 9936 from rfl, he]; simp
      · cases h
    · cases h

end
end Go.Lv
