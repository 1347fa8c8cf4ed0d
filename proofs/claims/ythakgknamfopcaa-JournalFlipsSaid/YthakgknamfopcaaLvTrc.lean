/- Lv: the trace of a region that draws its order, gone through in the order of the text. -/
import Derived.Test.YthakgknamfopcaaLvLoc
namespace Go.Lv
open Go
set_option linter.unusedVariables false
set_option linter.unusedSimpArgs false

mutual
theorem LV.beq_eq : ∀ (a b : LV), LV.beq a b = true → a = b
  | .bool a, b, h => by cases b <;> simp [LV.beq] at h; rw [h]
  | .int k a, b, h => by cases b <;> simp [LV.beq] at h; rw [h.1, h.2]
  | .str a, b, h => by cases b <;> simp [LV.beq] at h; rw [h]
  | .ptr a, b, h => by cases b <;> simp [LV.beq] at h; rw [h]
  | .slice a n c, b, h => by cases b <;> simp [LV.beq] at h; rw [h.1.1, h.1.2, h.2]
  | .map a, b, h => by cases b <;> simp [LV.beq] at h; rw [h]
  | .nilFunc, b, h => by cases b <;> simp [LV.beq] at h; rfl
  | .nilIface, b, h => by cases b <;> simp [LV.beq] at h; rfl
  | .yield a, b, h => by cases b <;> simp [LV.beq] at h; rw [h]
  | .iface t v, b, h => by
    cases b <;> simp [LV.beq] at h
    rw [h.1, LV.beq_eq _ _ h.2]
  | .agg a, b, h => by
    cases b <;> simp [LV.beq] at h
    rw [LV.beqs_eq _ _ h]
  | .tuple a, b, h => by
    cases b <;> simp [LV.beq] at h
    rw [LV.beqs_eq _ _ h]
  | .func f a b, c, h => by
    cases c <;> simp [LV.beq] at h
    rw [h.1.1, LV.beqs_eq _ _ h.1.2, LV.beqs_eq _ _ h.2]
  | .emp, b, h => by cases b <;> simp [LV.beq] at h; rfl
theorem LV.beqs_eq : ∀ (a b : List LV), LV.beqs a b = true → a = b
  | [], b, h => by cases b <;> simp [LV.beqs] at h; rfl
  | x :: a, b, h => by
    cases b <;> simp [LV.beqs] at h
    rw [LV.beq_eq _ _ h.1, LV.beqs_eq _ _ h.2]
end
mutual
theorem LV.beq_refl : ∀ (a : LV), LV.beq a a = true
  | .bool a => by simp [LV.beq]
  | .int k a => by simp [LV.beq]
  | .str a => by simp [LV.beq]
  | .ptr a => by simp [LV.beq]
  | .slice a n c => by simp [LV.beq]
  | .map a => by simp [LV.beq]
  | .nilFunc => by simp [LV.beq]
  | .nilIface => by simp [LV.beq]
  | .yield a => by simp [LV.beq]
  | .iface t v => by simp [LV.beq, LV.beq_refl v]
  | .agg a => by simp [LV.beq, LV.beqs_refl a]
  | .tuple a => by simp [LV.beq, LV.beqs_refl a]
  | .func f a c => by simp [LV.beq, LV.beqs_refl a, LV.beqs_refl c]
  | .emp => by simp [LV.beq]
theorem LV.beqs_refl : ∀ (a : List LV), LV.beqs a a = true
  | [] => by simp [LV.beqs]
  | a :: x => by simp [LV.beqs, LV.beq_refl a, LV.beqs_refl x]
end

theorem again_spec {P : Program} {E : Env} {H : LH} {o : Oper} {v : LV} (h : again P E H o v = true) : ∃ H', lop P E H o = some (.val v H') := by
  unfold again at h
  split at h
  · rename_i u H' hq; rw [LV.beq_eq _ _ h] at hq; exact ⟨H', hq⟩
  · cases h

section
variable {P : Program} {rec : Task → Option Res} {ops : Array Oper} {chk : Bool}

inductive MutRes (P : Program) (rec : Task → Option Res) (E : Env) (H : LH) (o : Oper) : LV → LH → Bool → Prop
  | val {v H'} (h : lop P E H o = some (.val v H')) : MutRes P rec E H o v H' false
  | skip {H'} (h : lop P E H o = some (.skip H')) : MutRes P rec E H o undefV H' false
  | call {f args v H' pan} (h : lop P E H o = some (.call f args)) (hr : rec (.call f args H) = some (.out (if pan then .panic v else .ret v) H')) : MutRes P rec E H o v H' pan
  | round {l args v H' pan} (h : lop P E H o = some (.round l args)) (hr : rec (.round l args H) = some (.out (if pan then .panic v else .ret v) H')) : MutRes P rec E H o v H' pan

inductive StepAt (P : Program) (rec : Task → Option Res) (ops : Array Oper) (p : Nat) (E : Env) (H : LH) (o : Oper) : LV → LH → Bool → Prop
  | no (hw : wantedL ops E o = some false) : StepAt P rec ops p E H o undefV H false
  | pure {v H'} (hw : wantedL ops E o = some true) (hk : okind P o ≠ .mut) (h : lop P E H o = some (.val v H')) : StepAt P rec ops p E H o v H' false
  | mut {v H' pan U} (hw : wantedL ops E o = some true) (hk : okind P o = .mut) (hU : hidU P ops E p o = some U) (hp : pan = true → U = []) (h : MutRes P rec E (H.hide U) o v H' pan) :
    StepAt P rec ops p E H o v (LH.back H H' U) pan

def Wt (ops : Array Oper) (E : Nat → Env) (p : Nat) (o : Oper) : Prop := ops[p]? = some o ∧ wantedL ops (E p) o = some true

structure Trc (P : Program) (rec : Task → Option Res) (ops : Array Oper) (chk : Bool) (j : Nat) (recs : List DRec) (S : FS) (r : FR) (E : Nat → Env) (H : Nat → LH) (v : Nat → LV) (pan : Bool) : Prop where
  e0 : E j = S.E
  h0 : H j = S.H
  step : ∀ p o, j ≤ p → ops[p]? = some o → StepAt P rec ops p (E p) (H p) o (v p) (H (p + 1)) (pan && p + 1 == ops.size)
  env : ∀ p o, j ≤ p → ops[p]? = some o → E (p + 1) = if pan && p + 1 == ops.size then E p else (E p).putO o.dst (v p)
  fin : r = if pan then .panic (v (ops.size - 1)) { S with E := E ops.size, H := H ops.size } else .ret { S with E := E ops.size, H := H ops.size }
  last : pan = true → j < ops.size ∧ ∀ i, i + 1 < ops.size → ahead (Region.before ops) i (ops.size - 1) = true
  c1 : chk = true → ∀ p o, j ≤ p → Wt ops E p o → okind P o = .mut → (pan && p + 1 == ops.size) = false → ∀ q Eq n oq vq, DRec.read q Eq n oq vq ∈ recs →
    ahead (Region.before ops) q p = true ∨ again P Eq { H (p + 1) with next := n } oq vq = true
  c2 : chk = true → ∀ p1 p2 o1 o2, j ≤ p1 → p1 < p2 → Wt ops E p1 o1 → Wt ops E p2 o2 → okind P o1 = .read → okind P o2 = .mut →
    ahead (Region.before ops) p1 p2 = true ∨ again P (E p1) { H (p2 + 1) with next := (H p1).next } o1 (v p1) = true
  c3 : chk = true → ∀ p o, j ≤ p → Wt ops E p o → okind P o = .read → ∀ q before, DRec.mut q before ∈ recs →
    ahead (Region.before ops) q p = true ∨ again P (E p) { before with next := (H p).next } o (v p) = true
  c4 : chk = true → ∀ p1 p2 o1 o2, j ≤ p1 → p1 < p2 → Wt ops E p1 o1 → Wt ops E p2 o2 → okind P o1 = .mut → okind P o2 = .read →
    ahead (Region.before ops) p1 p2 = true ∨ again P (E p2) { H p1 with next := (H p2).next } o2 (v p2) = true

theorem Wt.lt {E : Nat → Env} {p : Nat} {o : Oper} (h : Wt ops E p o) : p < ops.size := (Array.getElem?_eq_some_iff.1 h.1).1

/-- One operation more, ahead of the trace of those behind it. -/
theorem Trc.cons {j : Nat} {recs recs1 : List DRec} {S : FS} {r : FR} {E : Nat → Env} {H : Nat → LH} {v : Nat → LV} {pan : Bool} {o : Oper} {v0 : LV} {H1 : LH}
    (ht : Trc P rec ops chk (j + 1) recs1 { S with E := S.E.putO o.dst v0, H := H1 } r E H v pan) (ho : ops[j]? = some o) (hs : StepAt P rec ops j S.E S.H o v0 H1 false)
    (hsub : ∀ x ∈ recs, x ∈ recs1)
    (hr : chk = true → wantedL ops S.E o = some true → okind P o = .read → DRec.read j S.E S.H.next o v0 ∈ recs1)
    (hm : chk = true → wantedL ops S.E o = some true → okind P o = .mut → DRec.mut j S.H ∈ recs1)
    (k1 : chk = true → wantedL ops S.E o = some true → okind P o = .mut → ∀ q Eq n oq vq, DRec.read q Eq n oq vq ∈ recs → ahead (Region.before ops) q j = true ∨ again P Eq { H1 with next := n } oq vq = true)
    (k3 : chk = true → wantedL ops S.E o = some true → okind P o = .read → ∀ q before, DRec.mut q before ∈ recs → ahead (Region.before ops) q j = true ∨ again P S.E { before with next := S.H.next } o v0 = true) :
    Trc P rec ops chk j recs S r (fun p => if p = j then S.E else E p) (fun p => if p = j then S.H else H p) (fun p => if p = j then v0 else v p) pan := by
  have hj : j < ops.size := (Array.getElem?_eq_some_iff.1 ho).1
  have hpj : (pan && j + 1 == ops.size) = false := by
    cases pan with
    | false => rfl
    | true => have := (ht.last rfl).1; simp; omega
  have hpan : pan = true → j + 1 < ops.size := fun h => (ht.last h).1
  have wt : ∀ {p o}, j + 1 ≤ p → Wt ops (fun p => if p = j then S.E else E p) p o → Wt ops E p o := fun {p o} hp h => by
    obtain ⟨h1, h2⟩ := h
    simp only [if_neg (show ¬ p = j by omega)] at h2
    exact ⟨h1, h2⟩
  have wt0 : ∀ {o'}, Wt ops (fun p => if p = j then S.E else E p) j o' → o' = o ∧ wantedL ops S.E o = some true := fun {o'} h => by
    obtain ⟨h1, h2⟩ := h
    rw [ho] at h1; cases h1
    simp only [if_pos] at h2
    exact ⟨rfl, h2⟩
  refine ⟨by simp, by simp, ?_, ?_, ?_, fun h => ⟨hj, (ht.last h).2⟩, ?_, ?_, ?_, ?_⟩
  · intro p o' hp hop
    by_cases e : p = j
    · subst e
      rw [ho] at hop; cases hop
      simp only [if_pos, if_neg (show ¬ p + 1 = p by omega)]
      rw [hpj, ht.h0]
      exact hs
    · simp only [if_neg e, if_neg (show ¬ p + 1 = j by omega)]
      exact ht.step p o' (by omega) hop
  · intro p o' hp hop
    by_cases e : p = j
    · subst e
      rw [ho] at hop; cases hop
      simp only [if_pos, if_neg (show ¬ p + 1 = p by omega)]
      rw [hpj, ht.e0]
      rfl
    · simp only [if_neg e, if_neg (show ¬ p + 1 = j by omega)]
      exact ht.env p o' (by omega) hop
  · rw [ht.fin]
    simp only [if_neg (show ¬ ops.size = j by omega)]
    cases pan with
    | false => rfl
    | true => have := hpan rfl; simp only [if_true, if_neg (show ¬ ops.size - 1 = j by omega)]
  · intro hc p o' hp hw hk hpp q Eq n oq vq hq
    by_cases e : p = j
    · subst e
      obtain ⟨rfl, h2⟩ := wt0 hw
      simp only [if_neg (show ¬ p + 1 = p by omega), ht.h0]
      exact k1 hc h2 hk q Eq n oq vq hq
    · simp only [if_neg (show ¬ p + 1 = j by omega)]
      exact ht.c1 hc p o' (by omega) (wt (by omega) hw) hk hpp q Eq n oq vq (hsub _ hq)
  · intro hc p1 p2 o1 o2 h1 h2 hw1 hw2 hk1 hk2
    simp only [if_neg (show ¬ p2 + 1 = j by omega)]
    by_cases e : p1 = j
    · subst e
      obtain ⟨rfl, hw⟩ := wt0 hw1
      simp only [if_pos]
      have hrec := hr hc hw hk1
      by_cases hpp : (pan && p2 + 1 == ops.size) = false
      · exact ht.c1 hc p2 o2 (by omega) (wt (by omega) hw2) hk2 hpp _ _ _ _ _ hrec
      · have hpt : pan = true ∧ p2 + 1 = ops.size := by
          cases pan with
          | false => simp at hpp
          | true => simp at hpp; exact ⟨rfl, hpp⟩
        have := (ht.last hpt.1).2 p1 (by omega)
        left
        have e2 : ops.size - 1 = p2 := by omega
        rw [e2] at this; exact this
    · simp only [if_neg e]
      exact ht.c2 hc p1 p2 o1 o2 (by omega) h2 (wt (by omega) hw1) (wt (by omega) hw2) hk1 hk2
  · intro hc p o' hp hw hk q before hq
    by_cases e : p = j
    · subst e
      obtain ⟨rfl, h2⟩ := wt0 hw
      simp only [if_pos]
      exact k3 hc h2 hk q before hq
    · simp only [if_neg e]
      exact ht.c3 hc p o' (by omega) (wt (by omega) hw) hk q before (hsub _ hq)
  · intro hc p1 p2 o1 o2 h1 h2 hw1 hw2 hk1 hk2
    simp only [if_neg (show ¬ p2 = j by omega)]
    by_cases e : p1 = j
    · subst e
      obtain ⟨rfl, hw⟩ := wt0 hw1
      simp only [if_pos]
      exact ht.c3 hc p2 o2 (by omega) (wt (by omega) hw2) hk2 _ _ (hm hc hw hk1)
    · simp only [if_neg e]
      exact ht.c4 hc p1 p2 o1 o2 (by omega) h2 (wt (by omega) hw1) (wt (by omega) hw2) hk1 hk2

theorem drun_trace : ∀ (l : List Oper) (j : Nat) (recs : List DRec) (S : FS) (r : FR), l = ops.toList.drop j → j ≤ ops.size → drun P rec ops chk l j recs S = some r →
    ∃ E H v pan, Trc P rec ops chk j recs S r E H v pan
  | [], j, recs, S, r, hl, hj, h => by
    simp only [drun, Option.some.injEq] at h
    have hj' : j = ops.size := by
      have := congrArg List.length hl
      simp at this; omega
    subst hj'
    have none : ∀ p o, ops.size ≤ p → ops[p]? ≠ some o := fun p o hp he => by
      have := (Array.getElem?_eq_some_iff.1 he).1; omega
    exact ⟨fun _ => S.E, fun _ => S.H, fun _ => undefV, false, rfl, rfl, fun p o hp he => absurd he (none p o hp), fun p o hp he => absurd he (none p o hp), h.symm, (fun hh => by cases hh),
      fun _ p o hp hw => absurd hw.1 (none p o hp), fun _ p1 p2 o1 o2 hp _ hw => absurd hw.1 (none p1 o1 hp), fun _ p o hp hw => absurd hw.1 (none p o hp), fun _ p1 p2 o1 o2 hp _ hw => absurd hw.1 (none p1 o1 hp)⟩
  | o :: rest, j, recs, S, r, hl, hj, h => by
    have ho : ops[j]? = some o := by
      have := congrArg (fun l : List Oper => l[0]?) hl
      simpa using this.symm
    have hjs : j < ops.size := (Array.getElem?_eq_some_iff.1 ho).1
    have hrest : rest = ops.toList.drop (j + 1) := by
      have := congrArg List.tail hl
      simpa using this
    have ih := drun_trace rest (j + 1)
    simp only [drun] at h
    split at h
    · rename_i hw
      obtain ⟨E, H, v, pan, ht⟩ := ih _ _ _ hrest hjs h
      exact ⟨_, _, _, pan, ht.cons ho (.no hw) (fun _ hx => hx) (fun _ hh => by rw [hw] at hh; cases hh) (fun _ hh => by rw [hw] at hh; cases hh) (fun _ hh => by rw [hw] at hh; cases hh) (fun _ hh => by rw [hw] at hh; cases hh)⟩
    · cases h
    · rename_i hw
      split at h
      · cases h
      rename_i U hU
      split at h
      · rename_i q hk hq
        split at h
        · cases h
        · rename_i v H' hm
          split at h
          · rename_i hlast
            simp only [Option.some.injEq] at h
            simp only [Bool.and_eq_true] at hlast
            have hU0 : U = [] := by simpa using hlast.1.1
            have hr0 : rest = [] := by simpa using hlast.1.2
            have hsz : j + 1 = ops.size := by
              rw [hr0] at hrest
              have := congrArg List.length hrest
              simp at this; omega
            have hres : MutRes P rec S.E (S.H.hide U) o v H' true := by
              split at hm
              · simp at hm
              · simp at hm
              · rename_i f args
                split at hm
                · simp at hm
                · rename_i hr; simp only [Option.some.injEq, Prod.mk.injEq, and_true] at hm; obtain ⟨rfl, rfl⟩ := hm; exact .call hq hr
                · cases hm
              · rename_i f args
                split at hm
                · simp at hm
                · rename_i hr; simp only [Option.some.injEq, Prod.mk.injEq, and_true] at hm; obtain ⟨rfl, rfl⟩ := hm; exact .round hq hr
                · cases hm
              · cases hm
            have one : ∀ {p o'}, j ≤ p → ops[p]? = some o' → p = j ∧ o' = o := fun {p o'} hp he => by
              have hlt := (Array.getElem?_eq_some_iff.1 he).1
              have e : p = j := by omega
              subst e
              rw [ho] at he; cases he
              exact ⟨rfl, rfl⟩
            have hflag : (true && j + 1 == ops.size) = true := by simp [hsz]
            refine ⟨fun _ => S.E, fun p => if p = j then S.H else H', fun _ => v, true, rfl, by simp, ?_, ?_, ?_, fun _ => ⟨hjs, ?_⟩, ?_, ?_, ?_, ?_⟩
            · intro p o' hp he
              obtain ⟨rfl, rfl⟩ := one hp he
              rw [hflag]
              simp only [if_pos, if_neg (show ¬ p + 1 = p by omega)]
              subst hU0
              exact .mut hw hk hU (fun _ => rfl) hres
            · intro p o' hp he
              obtain ⟨rfl, rfl⟩ := one hp he
              rw [hflag]; rfl
            · rw [← h]
              simp only [if_true, if_neg (show ¬ ops.size = j by omega)]
            · intro i hi
              have e : ops.size - 1 = j := by omega
              rw [e]
              have := hlast.2
              rw [List.all_eq_true] at this
              exact this i (by simp; omega)
            · intro _ p o' hp hw' _ hpp
              obtain ⟨rfl, rfl⟩ := one hp hw'.1
              rw [hflag] at hpp; cases hpp
            · intro _ p1 p2 o1 o2 hp hlt hw1 hw2
              have h1 := hw2.lt; omega
            · intro _ p o' hp hw' hk'
              obtain ⟨rfl, rfl⟩ := one hp hw'.1
              rw [hk] at hk'; cases hk'
            · intro _ p1 p2 o1 o2 hp hlt hw1 hw2
              have h1 := hw2.lt; omega
          · cases h
        · rename_i v H' hm
          have hres : MutRes P rec S.E (S.H.hide U) o v H' false := by
            split at hm
            · simp only [Option.some.injEq, Prod.mk.injEq, and_true] at hm; obtain ⟨rfl, rfl⟩ := hm; exact .val hq
            · simp only [Option.some.injEq, Prod.mk.injEq, and_true] at hm; obtain ⟨rfl, rfl⟩ := hm; exact .skip hq
            · split at hm
              · rename_i hr; simp only [Option.some.injEq, Prod.mk.injEq, and_true] at hm; obtain ⟨rfl, rfl⟩ := hm; exact .call hq hr
              · simp at hm
              · cases hm
            · split at hm
              · rename_i hr; simp only [Option.some.injEq, Prod.mk.injEq, and_true] at hm; obtain ⟨rfl, rfl⟩ := hm; exact .round hq hr
              · simp at hm
              · cases hm
            · cases hm
          split at h
          · cases h
          · rename_i hc
            obtain ⟨E, H, vv, pan, ht⟩ := ih _ _ _ hrest hjs h
            refine ⟨_, _, _, pan, ht.cons ho (.mut hw hk hU (fun hh => by cases hh) hres) (fun x hx => by split <;> simp [hx]) (fun _ _ hk' => by rw [hk] at hk'; cases hk') (fun hcc _ _ => by simp [hcc]) ?_ (fun _ _ hk' => by rw [hk] at hk'; cases hk')⟩
            intro hcc _ _ q Eq n oq vq hmem
            simp only [hcc, Bool.true_and, Bool.not_eq_true', Bool.not_eq_false] at hc
            rw [List.all_eq_true] at hc
            have := hc _ hmem
            simpa using this
      · rename_i v H' hk hq
        obtain rfl := hidU_nil hU (by rw [hk]; simp)
        split at h
        · cases h
        · rename_i hc
          obtain ⟨E, H, vv, pan, ht⟩ := ih _ _ _ hrest hjs h
          refine ⟨_, _, _, pan, ht.cons ho (.pure hw (by rw [hk]; simp) hq) (fun x hx => by split <;> simp [hx]) (fun hcc _ _ => by simp [hcc]) (fun _ _ hk' => by rw [hk] at hk'; cases hk') (fun _ _ hk' => by rw [hk] at hk'; cases hk') ?_⟩
          intro hcc _ _ q before hmem
          simp only [hcc, Bool.true_and, Bool.not_eq_true', Bool.not_eq_false] at hc
          rw [List.all_eq_true] at hc
          have := hc _ hmem
          simpa using this
      · rename_i v H' hq hk1 hk2
        have hkm : okind P o ≠ .mut := fun e => hk1 e
        have hkr : okind P o ≠ .read := fun e => hk2 e
        obtain rfl := hidU_nil hU hkm
        obtain ⟨E, H, vv, pan, ht⟩ := ih _ _ _ hrest hjs h
        exact ⟨_, _, _, pan, ht.cons ho (.pure hw hkm hq) (fun _ hx => hx) (fun _ _ hk' => absurd hk' hkr) (fun _ _ hk' => absurd hk' hkm) (fun _ _ hk' => absurd hk' hkm) (fun _ _ hk' => absurd hk' hkr)⟩
      · cases h

end
end Go.Lv
