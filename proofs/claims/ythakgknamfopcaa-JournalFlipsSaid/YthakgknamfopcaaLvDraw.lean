/- Lv: regions that draw their order: whatever order is drawn, the machine comes to what the evaluator says. -/
import Derived.Test.YthakgknamfopcaaLvEnv
namespace Go.Lv
open Go
set_option linter.unusedVariables false
set_option linter.unusedSimpArgs false

section
variable {P : Program} {rec : Task → Option Res} {ops : Array Oper} {chk : Bool} {S : FS} {r : FR} {E : Nat → Env} {H : Nat → LH} {v : Nat → LV} {pan : Bool}

def isM (P : Program) (ops : Array Oper) (E : Nat → Env) (p : Nat) : Prop := ∃ o, Wt ops E p o ∧ okind P o = .mut
def isK (P : Program) (ops : Array Oper) (E : Nat → Env) (p : Nat) : Prop := ∃ o, Wt ops E p o ∧ okind P o = .make
/-- q is the first changing operation that is still to come. -/
structure FU (P : Program) (ops : Array Oper) (E : Nat → Env) (D : Nat → Bool) (q : Nat) : Prop where
  le : q ≤ ops.size
  here : q < ops.size → isM P ops E q ∧ D q = false
  below : ∀ p, p < q → isM P ops E p → D p = true

theorem fu_ex (D : Nat → Bool) : ∃ q, FU P ops E D q := by
  have key : ∀ n, n ≤ ops.size → (∃ q, q < n ∧ FU P ops E D q) ∨ ∀ p, p < n → isM P ops E p → D p = true := by
    intro n
    induction n with
    | zero => exact fun _ => .inr fun p h => by omega
    | succ n ih =>
      intro h
      rcases ih (by omega) with ⟨q, h1, h2⟩ | h1
      · exact .inl ⟨q, by omega, h2⟩
      · by_cases hc : isM P ops E n ∧ D n = false
        · exact .inl ⟨n, by omega, by omega, fun _ => hc, h1⟩
        · right
          intro p hp hm
          by_cases e : p = n
          · subst e
            cases hd : D p with
            | true => rfl
            | false => exact absurd ⟨hm, hd⟩ hc
          · exact h1 p (by omega) hm
  rcases key ops.size (Nat.le_refl _) with ⟨q, _, h⟩ | h
  · exact ⟨q, h⟩
  · exact ⟨ops.size, Nat.le_refl _, fun h => by omega, h⟩

theorem MutRes.next {E : Env} {H H' : LH} {o : Oper} {v : LV} {pan : Bool} (h : MutRes P rec E H o v H' pan) (hN : ∀ t r, rec t = some r → t.next ≤ r.next) : H.next ≤ H'.next := by
  cases h with
  | val h => exact (lop_lgo h).next
  | skip h => exact (lop_lgo h).next
  | call h hr => exact hN _ _ hr
  | round h hr => exact hN _ _ hr

theorem okind_make_id {E : Env} {H H' : LH} {o : Oper} {u : LV} (hk : okind P o = .make) (h : lop P E H o = some (.val u H')) : u.bid? = some H.next := by
  obtain ⟨dst, op, ty, pos, after, guard⟩ := o
  unfold lop at h
  cases op <;> simp only [okind] at hk h
  all_goals try (cases hk; done)
  case alloc t =>
    obtain ⟨z, _, hz⟩ := Option.bind_eq_some_iff.1 h
    cases hz; rfl
  case box t x =>
    obtain ⟨z, _, hz⟩ := Option.bind_eq_some_iff.1 h
    split at hz
    · cases hz; rfl
    · cases hz
  case buildSlice t len parts =>
    repeat' split at h
    all_goals first
      | (cases h; done)
      | (cases h; rfl)
  case convert s d x =>
    obtain ⟨a, _, hz⟩ := Option.bind_eq_some_iff.1 h
    obtain ⟨⟨v, H2⟩, hc, hd⟩ := Option.map_eq_some_iff.1 hz
    simp only [OR.val.injEq] at hd
    obtain ⟨rfl, rfl⟩ := hd
    unfold convertL at hc
    repeat' split at hk
    all_goals try (cases hk; done)
    repeat' split at hc
    all_goals first
      | (cases hc; done)
      | (cases hc; rfl)
      | (simp_all; done)
  case makeMap t r =>
    cases r with
    | none => simp only [Option.some.injEq, OR.val.injEq] at h; rw [← h.1]; rfl
    | some r => simp at h
  case makeSlice t l c =>
    split at h
    · obtain ⟨⟨v, H2⟩, hc, hd⟩ := Option.map_eq_some_iff.1 h
      simp only [OR.val.injEq] at hd
      obtain ⟨rfl, rfl⟩ := hd
      unfold makeSliceL at hc
      repeat' split at hc
      all_goals first
        | (cases hc; done)
        | (cases hc; rfl)
    · cases h
  case call c =>
    repeat' split at hk
    all_goals try (cases hk; done)

theorem Trc.next (ht : Trc P rec ops chk 0 [] S r E H v pan) (hN : ∀ t r, rec t = some r → t.next ≤ r.next) {p : Nat} (hp : p < ops.size) : (H p).next ≤ (H (p + 1)).next := by
  have ho : ops[p]? = some ops[p] := Array.getElem?_eq_getElem hp
  have hs := ht.step p _ (Nat.zero_le _) ho
  generalize hH : H (p + 1) = HH at hs ⊢
  generalize (pan && p + 1 == ops.size) = pp at hs
  generalize v p = vp at hs
  cases hs with
  | no hw => exact Nat.le_refl _
  | pure hw hk h => exact (lop_lgo h).next
  | «mut» hw hk hU hpn h =>
    rw [LH.next_back]
    have key := h.next hN
    rwa [LH.next_hide] at key

theorem Trc.mono (ht : Trc P rec ops chk 0 [] S r E H v pan) (hN : ∀ t r, rec t = some r → t.next ≤ r.next) {a : Nat} : ∀ k, a + k ≤ ops.size → (H a).next ≤ (H (a + k)).next
  | 0, _ => Nat.le_refl _
  | k + 1, h => Nat.le_trans (ht.mono hN k (by omega)) (ht.next hN (by omega))
theorem Trc.le (ht : Trc P rec ops chk 0 [] S r E H v pan) (hN : ∀ t r, rec t = some r → t.next ≤ r.next) {a b : Nat} (h : a ≤ b) (hb : b ≤ ops.size) : (H a).next ≤ (H b).next := by
  obtain ⟨k, rfl⟩ := Nat.exists_eq_add_of_le h
  exact ht.mono hN k hb

/-- An operation that is no wanted changing one: nothing, or one block more. -/
theorem Trc.calm (ht : Trc P rec ops chk 0 [] S r E H v pan) {p : Nat} (hp : p < ops.size) (hm : ¬ isM P ops E p) :
    H (p + 1) = H p ∨ (isK P ops E p ∧ ∃ obj, obj.owns = true ∧ H (p + 1) = (H p).new obj) := by
  have ho : ops[p]? = some ops[p] := Array.getElem?_eq_getElem hp
  have hs := ht.step p _ (Nat.zero_le _) ho
  generalize hH : H (p + 1) = HH at hs ⊢
  generalize (pan && p + 1 == ops.size) = pp at hs
  generalize v p = vp at hs
  cases hs with
  | no hw => exact .inl rfl
  | pure hw hk h =>
    cases hkk : okind P ops[p] with
    | free => exact .inl (okind_free hkk h).1
    | read => exact .inl (okind_read hkk h).1
    | «mut» => exact absurd hkk hk
    | make =>
      obtain ⟨f, hf⟩ := okind_make (P := P) (E := E p) hkk
      rw [hf] at h
      obtain ⟨q, hq, he⟩ := Option.map_eq_some_iff.1 h
      cases he
      refine .inr ⟨⟨_, ⟨ho, hw⟩, hkk⟩, q.2, ?_, rfl⟩
      have hl := lop_lgo (P := P) (E := E p) (H := H p) (o := ops[p]) (r := .val q.1 ((H p).new q.2)) (by rw [hf, hq]; rfl)
      rcases hl.back (H p).next q.2 (by simp [OR.heap, LH.get_new]) with h1 | ⟨o', h1, h2, _⟩
      · exact h1.2.2.1
      · cases ho2 : q.2.owns with
        | true => rfl
        | false =>
          exfalso
          have hz := lop_lgo (P := P) (E := E p) (H := { next := (H p).next, t := .leaf }) (o := ops[p]) (r := .val q.1 (({ next := (H p).next, t := .leaf } : LH).new q.2)) (by rw [hf, hq]; rfl)
          rcases hz.back (H p).next q.2 (by simp [OR.heap, LH.get_new]) with h3 | ⟨o3, h3, _⟩
          · rw [ho2] at h3; exact absurd h3.2.2.1 (by simp)
          · simp [LH.get, Tr.get_leaf] at h3
  | «mut» hw hk hU hpn h => exact absurd ⟨_, ⟨ho, hw⟩, hk⟩ hm

theorem Trc.makes (ht : Trc P rec ops chk 0 [] S r E H v pan) {p : Nat} (hK : isK P ops E p) : ∃ obj, H (p + 1) = (H p).new obj := by
  obtain ⟨om, ⟨hom, hwm⟩, hkm⟩ := hK
  have hs2 := ht.step p om (Nat.zero_le _) hom
  generalize (pan && p + 1 == ops.size) = pp at hs2
  generalize v p = vm at hs2
  generalize hHm : H (p + 1) = Hm at hs2 ⊢
  cases hs2 with
  | no hw => rw [hwm] at hw; cases hw
  | pure hw hk hh =>
    obtain ⟨f, hf⟩ := okind_make (P := P) (E := E p) hkm
    rw [hf] at hh
    obtain ⟨z, _, hz⟩ := Option.map_eq_some_iff.1 hh
    simp only [OR.val.injEq] at hz
    exact ⟨_, hz.2.symm⟩
  | «mut» hw hk hU hpn hh => rw [hkm] at hk; cases hk

theorem Trc.calm_lgo (ht : Trc P rec ops chk 0 [] S r E H v pan) {p : Nat} (hp : p < ops.size) (hm : ¬ isM P ops E p) : LGo P (H p) (H (p + 1)) := by
  have ho : ops[p]? = some ops[p] := Array.getElem?_eq_getElem hp
  have hs := ht.step p _ (Nat.zero_le _) ho
  generalize hH : H (p + 1) = HH at hs ⊢
  generalize (pan && p + 1 == ops.size) = pp at hs
  generalize v p = vp at hs
  cases hs with
  | no hw => exact LGo.refl _ _
  | pure hw hk h => exact lop_lgo h
  | «mut» hw hk hU hpn h => exact absurd ⟨_, ⟨ho, hw⟩, hk⟩ hm

/-- Up a stretch without changing operations. -/
theorem Trc.up (ht : Trc P rec ops chk 0 [] S r E H v pan) {a : Nat} {i : Nat} {o : LO} (hi : (H a).get i = some o) :
    ∀ k, a + k ≤ ops.size → (∀ p, a ≤ p → p < a + k → ¬ isM P ops E p) → (∀ p, a ≤ p → p < a + k → i ≠ (H p).next ∨ ¬ isK P ops E p) → (H (a + k)).get i = some o
  | 0, _, _, _ => hi
  | k + 1, h, hm, hk => by
    have ih := ht.up hi k (by omega) (fun p h1 h2 => hm p h1 (by omega)) (fun p h1 h2 => hk p h1 (by omega))
    show (H (a + k + 1)).get i = some o
    rcases ht.calm (p := a + k) (by omega) (hm _ (by omega) (by omega)) with e | ⟨hK, obj, _, e⟩
    · rw [e]; exact ih
    · rw [e, LH.get_new, if_neg]
      · exact ih
      · rcases hk (a + k) (by omega) (by omega) with h1 | h1
        · exact h1
        · exact absurd hK h1

/-- And down. -/
theorem Trc.down (ht : Trc P rec ops chk 0 [] S r E H v pan) {a : Nat} {i : Nat} {o : LO} :
    ∀ k, a + k ≤ ops.size → (∀ p, a ≤ p → p < a + k → ¬ isM P ops E p) → (H (a + k)).get i = some o →
      (H a).get i = some o ∨ ∃ m, a ≤ m ∧ m < a + k ∧ isK P ops E m ∧ i = (H m).next ∧ (H (m + 1)).get i = some o
  | 0, _, _, h => .inl h
  | k + 1, h, hm, hi => by
    have hi' : (H (a + k + 1)).get i = some o := hi
    rcases ht.calm (p := a + k) (by omega) (hm _ (by omega) (by omega)) with e | ⟨hK, obj, _, e⟩
    · rw [e] at hi'
      rcases ht.down k (by omega) (fun p h1 h2 => hm p h1 (by omega)) hi' with h1 | ⟨m, h1, h2, h3⟩
      · exact .inl h1
      · exact .inr ⟨m, h1, by omega, h3⟩
    · by_cases e1 : i = (H (a + k)).next
      · exact .inr ⟨a + k, by omega, by omega, hK, e1, hi'⟩
      · rw [e, LH.get_new, if_neg e1] at hi'
        rcases ht.down k (by omega) (fun p h1 h2 => hm p h1 (by omega)) hi' with h1 | ⟨m, h1, h2, h3⟩
        · exact .inl h1
        · exact .inr ⟨m, h1, by omega, h3⟩

/-! ### what a changing operation does without -/
theorem hidL_spec {E : Env} {j : Nat} : ∀ (n : Nat) (l : List Nat), hidL P ops E j n = some l →
    (∀ k o, k < n → ops[k]? = some o → okind P o = .make → ahead (Region.before ops) k j = false → ∃ t v, o.dst = some t ∧ t < E.n ∧ E.get t = some v ∧ ∀ i, v.bid? = some i → i ∈ l) ∧
    (∀ i ∈ l, ∃ k o t v, k < n ∧ ops[k]? = some o ∧ okind P o = .make ∧ ahead (Region.before ops) k j = false ∧ o.dst = some t ∧ t < E.n ∧ E.get t = some v ∧ v.bid? = some i)
  | 0, l, h => by
    cases h
    exact ⟨(fun k o hk => by omega), (fun i hi => by cases hi)⟩
  | n + 1, l, h => by
    simp only [hidL] at h
    split at h
    · cases h
    · rename_i l0 hl0
      obtain ⟨ih1, ih2⟩ := hidL_spec n l0 hl0
      have mono : (∀ i ∈ l0, i ∈ l) → (∀ o, ops[n]? = some o → okind P o = .make → ahead (Region.before ops) n j = false → ∃ t v, o.dst = some t ∧ t < E.n ∧ E.get t = some v ∧ ∀ i, v.bid? = some i → i ∈ l) →
          ∀ k o, k < n + 1 → ops[k]? = some o → okind P o = .make → ahead (Region.before ops) k j = false → ∃ t v, o.dst = some t ∧ t < E.n ∧ E.get t = some v ∧ ∀ i, v.bid? = some i → i ∈ l := fun hs h0 k o hk ho hok ha => by
        by_cases e : k = n
        · subst e; exact h0 o ho hok ha
        · obtain ⟨t, v, h1, h2, h3, h4⟩ := ih1 k o (by omega) ho hok ha
          exact ⟨t, v, h1, h2, h3, fun i hi => hs i (h4 i hi)⟩
      have back : ∀ i ∈ l0, ∃ k o t v, k < n + 1 ∧ ops[k]? = some o ∧ okind P o = .make ∧ ahead (Region.before ops) k j = false ∧ o.dst = some t ∧ t < E.n ∧ E.get t = some v ∧ v.bid? = some i := fun i hi => by
        obtain ⟨k, o, t, v, h1, h2⟩ := ih2 i hi
        exact ⟨k, o, t, v, by omega, h2⟩
      split at h
      · rename_i o ho
        split at h
        · rename_i hc
          simp only [Bool.and_eq_true, beq_iff_eq, Bool.not_eq_true'] at hc
          split at h
          · rename_i t ht
            split at h
            · rename_i hlt
              split at h
              · rename_i v hv
                split at h
                · rename_i k hk
                  cases h
                  refine ⟨mono (fun i hi => List.mem_cons_of_mem _ hi) (fun o' ho' _ _ => ?_), fun i hi => ?_⟩
                  · rw [ho] at ho'; cases ho'
                    exact ⟨t, v, ht, hlt, hv, fun i hi => by rw [hk] at hi; cases hi; exact List.mem_cons_self⟩
                  · rcases List.mem_cons.1 hi with h1 | h1
                    · subst h1; exact ⟨n, o, t, v, by omega, ho, hc.1, hc.2, ht, hlt, hv, hk⟩
                    · exact back i h1
                · rename_i hk
                  cases h
                  refine ⟨mono (fun i hi => hi) (fun o' ho' _ _ => ?_), back⟩
                  rw [ho] at ho'; cases ho'
                  exact ⟨t, v, ht, hlt, hv, fun i hi => by rw [hk] at hi; cases hi⟩
              · cases h
            · cases h
          · cases h
        · rename_i hc
          cases h
          refine ⟨mono (fun i hi => hi) (fun o' ho' h1 h2 => ?_), back⟩
          rw [ho] at ho'; cases ho'
          simp [h1, h2] at hc
      · rename_i ho
        cases h
        exact ⟨mono (fun i hi => hi) (fun o' ho' _ _ => by rw [ho] at ho'; cases ho'), back⟩

theorem Trc.kept (ht : Trc P rec ops chk 0 [] S r E H v pan) {k t : Nat} {o : Oper} (ho : ops[k]? = some o) (hd : o.dst = some t) (hu : ∀ (m : Nat) (q : Oper), ops[m]? = some q → m ≠ k → q.dst ≠ some t) (hlt : t < S.E.n) :
    ∀ n, k + 1 + n < ops.size → (E (k + 1 + n)).get t = some (v k)
  | 0, h => by
    show (E (k + 1)).get t = _
    rw [ht.env k o (Nat.zero_le _) ho, if_neg (by simp; omega), Env.get_putO, if_pos ⟨hd, by rw [(ht.n k (by omega)).1]; exact hlt⟩]
  | n + 1, h => by
    have ih := ht.kept ho hd hu hlt n (by omega)
    have hp : ops[k + 1 + n]? = some ops[k + 1 + n] := Array.getElem?_eq_getElem (by omega)
    show (E (k + 1 + n + 1)).get t = _
    rw [ht.env _ _ (Nat.zero_le _) hp, if_neg (by simp; omega), Env.get_putO, if_neg (fun h2 => hu _ _ hp (by omega) h2.1), ih]

theorem makesOk_spec (h : makesOk P ops = true) {i j : Nat} {o p : Oper} (ho : ops[i]? = some o) (hp : ops[j]? = some p) (hlt : i < j) (h1 : okind P o = .make) (h2 : okind P p = .mut) :
    ahead (Region.before ops) i j = true := by
  have h4 := zip_all h ho
  simp only [Bool.or_eq_true, bne_iff_ne, ne_eq] at h4
  rcases h4 with h4 | h4
  · exact absurd h1 h4
  · have h5 := zip_all h4 hp
    simpa [hlt, h2] using h5

theorem Trc.hid (ht : Trc P rec ops chk 0 [] S r E H v pan) (hst : Stat P ops) {p : Nat} {o : Oper} {U : List Nat} (ho : ops[p]? = some o) (hk : okind P o = .mut) (hU : hidU P ops (E p) p o = some U) :
    (∀ i ∈ U, ∃ k, k < p ∧ isK P ops E k ∧ ahead (Region.before ops) k p = false ∧ i = (H k).next) ∧
    (∀ k, k < p → isK P ops E k → ahead (Region.before ops) k p = false → (H k).next ∈ U) := by
  have hps := (Array.getElem?_eq_some_iff.1 ho).1
  unfold hidU at hU
  split at hU
  · rename_i hc
    simp only [hk, Bool.or_eq_true, bne_self_eq_false, Bool.false_eq_true, false_or] at hc
    cases hU
    refine ⟨(fun i hi => by cases hi), (fun k hkp ⟨ok, ⟨hok, _⟩, hkk⟩ ha => ?_)⟩
    rw [makesOk_spec hc hok ho hkp hkk hk] at ha; cases ha
  · obtain ⟨h1, h2⟩ := hidL_spec p U hU
    have val : ∀ {k : Nat} {ok : Oper} {t : Nat}, k < p → ops[k]? = some ok → okind P ok = .make → ahead (Region.before ops) k p = false → ok.dst = some t → t < (E p).n → (E p).get t = some (v k) := fun {k ok t} hkp hok hkk ha hd hlt => by
      rcases hst.mks k p ok o hok ho hkp hk hkk with h3 | ⟨t', h3, h4⟩
      · rw [h3] at ha; cases ha
      · rw [hd] at h3; cases h3
        have e : p = k + 1 + (p - (k + 1)) := by omega
        rw [(ht.n p (by omega)).1] at hlt
        have := ht.kept hok hd h4 hlt (p - (k + 1)) (by omega)
        rwa [← e] at this
    constructor
    · intro i hi
      obtain ⟨k, ok, t, u, hkp, hok, hkk, ha, hd, hlt, hu, hui⟩ := h2 i hi
      have hv := val hkp hok hkk ha hd hlt
      rw [hu] at hv; cases hv
      have hs := ht.step k ok (Nat.zero_le _) hok
      generalize (pan && k + 1 == ops.size) = pp at hs
      generalize H (k + 1) = HH at hs
      generalize hvk : v k = vk at hs
      cases hs with
      | no hw => rw [hvk] at hui; simp [undefV, LV.bid?] at hui
      | pure hw hkn hl =>
        rw [hvk, okind_make_id hkk hl] at hui
        cases hui
        exact ⟨k, hkp, ⟨ok, ⟨hok, hw⟩, hkk⟩, ha, rfl⟩
      | «mut» hw hkn hUU hpn hh => rw [hkk] at hkn; cases hkn
    · intro k hkp ⟨ok, ⟨hok, hw⟩, hkk⟩ ha
      obtain ⟨t, u, hd, hlt, hu, hin⟩ := h1 k ok hkp hok hkk ha
      have hv := val hkp hok hkk ha hd hlt
      rw [hu] at hv; cases hv
      have hs := ht.step k ok (Nat.zero_le _) hok
      generalize (pan && k + 1 == ops.size) = pp at hs
      generalize H (k + 1) = HH at hs
      generalize hvk : v k = vk at hs
      cases hs with
      | no hw' => rw [hw] at hw'; cases hw'
      | pure hw hkn hl => exact hin _ (by rw [hvk]; exact okind_make_id hkk hl)
      | «mut» hw hkn hUU hpn hh => rw [hkk] at hkn; cases hkn

/-- A block stays as it was made, up to changing operations that wait for it. -/
theorem Trc.stay (ht : Trc P rec ops chk 0 [] S r E H v pan) (hN : ∀ t r, rec t = some r → t.next ≤ r.next) (hst : Stat P ops) {k : Nat} {obj : LO} (hK : isK P ops E k) (hobj : H (k + 1) = (H k).new obj) :
    ∀ n, k + 1 + n ≤ ops.size → (∀ p, k + 1 ≤ p → p < k + 1 + n → isM P ops E p → ahead (Region.before ops) k p = false) → (H (k + 1 + n)).get (H k).next = some obj
  | 0, _, _ => by
    show (H (k + 1)).get _ = _
    rw [hobj, LH.get_new, if_pos rfl]
  | n + 1, h, ha => by
    have ih := ht.stay hN hst hK hobj n (by omega) (fun p h1 h2 => ha p h1 (by omega))
    show (H (k + 1 + n + 1)).get _ = _
    have hle : (H k).next < (H (k + 1 + n)).next := by
      have := ht.le hN (a := k + 1) (b := k + 1 + n) (by omega) (by omega)
      rw [hobj] at this; simp at this; omega
    by_cases hm : isM P ops E (k + 1 + n)
    · obtain ⟨o, ⟨ho, hw⟩, hk⟩ := hm
      have hs := ht.step (k + 1 + n) o (Nat.zero_le _) ho
      generalize (pan && k + 1 + n + 1 == ops.size) = pp at hs
      generalize v (k + 1 + n) = vk at hs
      generalize hHH : H (k + 1 + n + 1) = HH at hs ⊢
      cases hs with
      | no hw' => rw [hw] at hw'; cases hw'
      | pure hw hkn hl => exact absurd hk hkn
      | «mut» hw hkn hU hpn hh =>
        have hin := (ht.hid hst ho hk hU).2 k (by omega) hK (ha (k + 1 + n) (by omega) (by omega) ⟨o, ⟨ho, hw⟩, hk⟩)
        rw [LH.get_back, if_pos ⟨hin, by rw [ih]; rfl⟩, ih]
    · rcases ht.calm (p := k + 1 + n) (by omega) hm with e | ⟨_, ob, _, e⟩
      · rw [e]; exact ih
      · rw [e, LH.get_new, if_neg (by omega)]; exact ih

theorem LGo.put_back {H0 H1 : LH} {U : List Nat} (h : LGo P (H0.hide U) H1) : LGo P H0 (LH.back H0 H1 U) := by
  refine ⟨by rw [LH.next_back]; have := h.next; rwa [LH.next_hide] at this, fun i o hi => ?_⟩
  rw [LH.get_back] at hi
  split at hi
  · exact .inr ⟨o, hi, fun _ => rfl, id⟩
  · rcases h.back i o hi with ⟨h1, h2, h3⟩ | ⟨o', h1, h2⟩
    · rw [LH.next_hide] at h1
      exact .inl ⟨h1, by rw [LH.next_back]; exact h2, h3⟩
    · rw [LH.get_hide] at h1
      split at h1
      · cases h1
      · exact .inr ⟨o', h1, h2⟩

structure DInv (P : Program) (ops : Array Oper) (S : FS) (E : Nat → Env) (H : Nat → LH) (v : Nat → LV) (R0 : Ren) (w0 : World) (a0 : Act) (D : Nat → Bool) (R : Ren) (X : Nat → Option LO) (a : Act) (w : World) : Prop where
  env : EnvR R (envD ops v S.E D ops.size) a.tmps
  dfs : a.defers = a0.defers
  reg : RegInv P R0 S.H w0 (H ops.size).next R X w
  clo : ∀ i j, j < ops.size → D j = true → ahead (Region.before ops) i j = true → D i = true
  x0 : ∀ p, p < ops.size → D p = true → LGo P (H p) (H (p + 1))
  x1 : ∀ q, FU P ops E D q → ∀ i o, (H q).get i = some o → X i = some o ∨ ∃ j, j < q ∧ D j = false ∧ isK P ops E j ∧ i = (H j).next
  x2 : ∀ q, FU P ops E D q → ∀ j, q ≤ j → D j = true → isK P ops E j → ∀ o, (H (j + 1)).get (H j).next = some o → X (H j).next = some o
  x3 : ∀ j, j < ops.size → D j = false → ∀ i, (H j).next ≤ i → i < (H (j + 1)).next → R i = none

/-- The heaps up to the first changing operation that is still to come. -/
theorem DInv.chain {R0 R : Ren} {w0 w : World} {a0 a : Act} {D : Nat → Bool} {X : Nat → Option LO} (h : DInv P ops S E H v R0 w0 a0 D R X a w) (ht : Trc P rec ops chk 0 [] S r E H v pan)
    {q : Nat} (hq : FU P ops E D q) : ∀ n, n ≤ q → LGo P S.H (H n)
  | 0, _ => by rw [ht.h0]; exact LGo.refl _ _
  | n + 1, hn => by
    have ih := h.chain ht hq n (by omega)
    have := hq.le
    by_cases hm : isM P ops E n
    · exact ih.trans (h.x0 n (by omega) (hq.below n (by omega) hm))
    · exact ih.trans (ht.calm_lgo (by omega) hm)

theorem DInv.bnd {R0 R : Ren} {w0 w : World} {a0 a : Act} {D : Nat → Bool} {X : Nat → Option LO} (h : DInv P ops S E H v R0 w0 a0 D R X a w) (ht : Trc P rec ops chk 0 [] S r E H v pan)
    (hd0 : Den R0 S.H w0) (hf0 : Fresh R0 S.H.next (H ops.size).next) {q : Nat} (hq : FU P ops E D q) {n : Nat} (hn : n ≤ q) {i : Nat} {o : LO} (hi : (H n).get i = some o) :
    ¬ ((H n).next ≤ i ∧ i < (H ops.size).next) := by
  rintro ⟨h1, h2⟩
  have hl := h.chain ht hq n hn
  rcases hl.back i o hi with ⟨_, h3, _⟩ | ⟨o', h3, _⟩
  · omega
  · obtain ⟨b, d, e, h4, _⟩ := hd0.obj i o' h3
    rw [hf0 i (Nat.le_trans hl.next h1) h2] at h4
    cases h4

def DS (D : Nat → Bool) (j : Nat) : Nat → Bool := fun i => D i || i == j
theorem DS_self (D : Nat → Bool) (j : Nat) : DS D j j = true := by simp [DS]
theorem DS_ne {D : Nat → Bool} {i j : Nat} (h : i ≠ j) : DS D j i = D i := by simp [DS, h]
theorem DS_of {D : Nat → Bool} {i j : Nat} (h : D i = true) : DS D j i = true := by simp [DS, h]
theorem DS_false {D : Nat → Bool} {i j : Nat} (h : DS D j i = false) : D i = false ∧ i ≠ j := by
  simp only [DS, Bool.or_eq_false_iff, beq_eq_false_iff_ne, ne_eq] at h
  exact h

/-- j is ready. -/
structure Rdy (ops : Array Oper) (D : Nat → Bool) (j : Nat) (o : Oper) : Prop where
  op : ops[j]? = some o
  un : D j = false
  pre : ∀ i, ahead (Region.before ops) i j = true → D i = true
theorem Rdy.lt {D : Nat → Bool} {j : Nat} {o : Oper} (h : Rdy ops D j o) : j < ops.size := (Array.getElem?_eq_some_iff.1 h.op).1

/-- The invariant goes on, whatever was done. -/
theorem DInv.go {R0 R R' : Ren} {w0 w w' : World} {a0 a : Act} {D : Nat → Bool} {X : Nat → Option LO} (h : DInv P ops S E H v R0 w0 a0 D R X a w) (ht : Trc P rec ops chk 0 [] S r E H v pan)
    (hN : ∀ t r, rec t = some r → t.next ≤ r.next) (hst : Stat P ops) {j : Nat} {o : Oper} (hj : Rdy ops D j o) {H1 H1' : LH} (hs : ∀ i o, H1.get i = some o → X i = some o) (hn : H1.next = (H j).next) (hn' : H1'.next = (H (j + 1)).next)
    (hg : Goes R H1 w R' H1' w') (hd : Den R' H1' w') (hl : LGo P H1 H1') {y : Value} (hy : DV R' (v j) y) (hx0 : LGo P (H j) (H (j + 1)))
    (hx1 : ∀ q, FU P ops E (DS D j) q → ∀ i o, (H q).get i = some o → stepX X H1 H1' i = some o ∨ ∃ k, k < q ∧ DS D j k = false ∧ isK P ops E k ∧ i = (H k).next)
    (hx2 : ∀ q, FU P ops E (DS D j) q → ∀ k, q ≤ k → DS D j k = true → isK P ops E k → ∀ o, (H (k + 1)).get (H k).next = some o → stepX X H1 H1' (H k).next = some o) :
    DInv P ops S E H v R0 w0 a0 (DS D j) R' (stepX X H1 H1') (a.put o.dst y) w' where
  env := by
    refine EnvR.congr ((h.env.mono hg.ext).putO o.dst hy) ?_ ?_ ?_
    · rw [Env.n_putO, (envD_n _ _).1, (envD_n _ _).1]
    · rw [Env.g_putO, (envD_n _ _).2, (envD_n _ _).2]
    · intro t
      have hlt := hj.lt
      have e : ops.size = j + 1 + (ops.size - (j + 1)) := by omega
      rw [e]
      exact envD_put hst hj.op hj.un h.clo t _ (by omega)
  dfs := by rw [Act.put_defers']; exact h.dfs
  reg := by
    have h0 : S.H.next ≤ (H j).next := by rw [← ht.h0]; exact ht.le hN (Nat.zero_le _) (Nat.le_of_lt hj.lt)
    exact h.reg.step hs hg hd hl (by rw [hn]; exact h0) (by rw [hn']; exact ht.le hN hj.lt (Nat.le_refl _))
  clo i k hk hd' ha := by
    by_cases e : k = j
    · subst e; exact DS_of (hj.pre i ha)
    · rw [DS_ne e] at hd'; exact DS_of (h.clo i k hk hd' ha)
  x0 p hp hd' := by
    by_cases e : p = j
    · subst e; exact hx0
    · rw [DS_ne e] at hd'; exact h.x0 p hp hd'
  x1 := hx1
  x2 := hx2
  x3 k hk hd' i h1 h2 := by
    obtain ⟨hd', hne⟩ := DS_false hd'
    cases hr : R' i with
    | none => rfl
    | some z =>
      exfalso
      rcases hg.dom i z hr with h3 | ⟨h3, h4⟩
      · rw [h.x3 k hk hd' i h1 h2] at h3; cases h3
      · rw [hn] at h3
        rw [hn'] at h4
        have hlt := hj.lt
        by_cases e : k < j
        · have := ht.le hN (a := k + 1) (b := j) (by omega) (by omega); omega
        · have := ht.le hN (a := j + 1) (b := k) (by omega) (by omega); omega

theorem fu_calm {D : Nat → Bool} {j q : Nat} (h : FU P ops E (DS D j) q) (hm : ¬ isM P ops E j) : FU P ops E D q :=
  ⟨h.le, fun hq => ⟨(h.here hq).1, (DS_false (h.here hq).2).1⟩, fun p hp hM => by
    have := h.below p hp hM
    rwa [DS_ne (fun e => by subst e; exact hm hM)] at this⟩

theorem stepX_same {X : Nat → Option LO} {H1 : LH} (hs : ∀ i o, H1.get i = some o → X i = some o) (i : Nat) : stepX X H1 H1 i = X i := by
  unfold stepX
  split
  · rename_i hc
    rcases hc with hc | hc
    · obtain ⟨o, ho⟩ := Option.isSome_iff_exists.1 hc
      rw [ho, hs i o ho]
    · omega
  · rfl

/-- What reads, or does nothing to the heap. -/
theorem DInv.still {R0 R R' : Ren} {w0 w w' : World} {a0 a : Act} {D : Nat → Bool} {X : Nat → Option LO} (h : DInv P ops S E H v R0 w0 a0 D R X a w) (ht : Trc P rec ops chk 0 [] S r E H v pan)
    (hN : ∀ t r, rec t = some r → t.next ≤ r.next) (hst : Stat P ops) {j : Nat} {o : Oper} (hj : Rdy ops D j o) {H1 : LH} (hs : ∀ i o, H1.get i = some o → X i = some o) (hn : H1.next = (H j).next) (hn' : H (j + 1) = H j)
    (hg : Goes R H1 w R' H1 w') (hd : Den R' H1 w') {y : Value} (hy : DV R' (v j) y) (hm : ¬ isM P ops E j) (hk : ¬ isK P ops E j) :
    DInv P ops S E H v R0 w0 a0 (DS D j) R' (stepX X H1 H1) (a.put o.dst y) w' := by
  refine h.go ht hN hst hj hs hn (by rw [hn, hn']) hg hd (LGo.refl _ _) hy (by rw [hn']; exact LGo.refl _ _) ?_ ?_
  · intro q hq i oo hi
    rw [stepX_same hs]
    rcases h.x1 q (fu_calm hq hm) i oo hi with h1 | ⟨k, h1, h2, h3, h4⟩
    · exact .inl h1
    · refine .inr ⟨k, h1, ?_, h3, h4⟩
      rw [DS_ne (fun e => by subst e; exact hk h3)]; exact h2
  · intro q hq k h1 h2 h3 oo h4
    rw [stepX_same hs]
    rw [DS_ne (fun e => by subst e; exact hk h3)] at h2
    exact h.x2 q (fu_calm hq hm) k h1 h2 h3 oo h4

/-- What makes a block. -/
theorem DInv.make {R0 R R' : Ren} {w0 w w' : World} {a0 a : Act} {D : Nat → Bool} {X : Nat → Option LO} (h : DInv P ops S E H v R0 w0 a0 D R X a w) (ht : Trc P rec ops chk 0 [] S r E H v pan)
    (hN : ∀ t r, rec t = some r → t.next ≤ r.next) (hst : Stat P ops) {j : Nat} {o : Oper} (hj : Rdy ops D j o) (hok : okind P o = .make) (hw : wantedL ops (E j) o = some true) {obj : LO} (hobj : H (j + 1) = (H j).new obj) (hlg : LGo P (H j) (H (j + 1)))
    (hg : Goes R { next := (H j).next, t := .leaf } w R' (LH.new { next := (H j).next, t := .leaf } obj) w') (hd : Den R' (LH.new { next := (H j).next, t := .leaf } obj) w')
    (hl : LGo P { next := (H j).next, t := .leaf } (LH.new { next := (H j).next, t := .leaf } obj)) {y : Value} (hy : DV R' (v j) y) :
    DInv P ops S E H v R0 w0 a0 (DS D j) R' (stepX X { next := (H j).next, t := .leaf } (LH.new { next := (H j).next, t := .leaf } obj)) (a.put o.dst y) w' := by
  have hm : ¬ isM P ops E j := by
    rintro ⟨o', ⟨h1, _⟩, h2⟩
    rw [hj.op] at h1; cases h1
    rw [hok] at h2; cases h2
  have hlt := hj.lt
  have hX : ∀ i, stepX X { next := (H j).next, t := .leaf } (LH.new { next := (H j).next, t := .leaf } obj) i = if i = (H j).next then some obj else X i := fun i => by
    unfold stepX
    have e0 : ({ next := (H j).next, t := .leaf } : LH).get i = none := by simp [LH.get, Tr.get_leaf]
    simp only [e0, Option.isSome_none, Bool.false_eq_true, false_or, LH.next_new, LH.get_new]
    by_cases e : i = (H j).next
    · subst e; simp
    · rw [if_neg (by omega), if_neg e]
  have hRn : R (H j).next = none := h.x3 j hlt hj.un _ (Nat.le_refl _) (by rw [hobj]; simp)
  have hXn : ∀ oo, X (H j).next ≠ some oo := fun oo hx => by
    obtain ⟨b, d, e, h1, _⟩ := h.reg.obj _ _ hx
    rw [hRn] at h1; cases h1
  refine h.go (H1 := { next := (H j).next, t := .leaf }) (H1' := LH.new { next := (H j).next, t := .leaf } obj) ht hN hst hj (fun i oo hi => by simp [LH.get, Tr.get_leaf] at hi) rfl (by rw [hobj]; rfl) hg hd hl hy hlg ?_ ?_
  · intro q hq i oo hi
    have hqD := fu_calm hq hm
    rw [hX]
    rcases h.x1 q hqD i oo hi with h1 | ⟨k, h1, h2, h3, h4⟩
    · left
      rw [if_neg (fun e => by subst e; exact hXn _ h1)]
      exact h1
    · by_cases e : k = j
      · subst e
        left
        rw [if_pos h4]
        have hK : isK P ops E k := ⟨o, ⟨hj.op, hw⟩, hok⟩
        have e2 : q = k + 1 + (q - (k + 1)) := by omega
        have h5 := ht.stay hN hst hK hobj (q - (k + 1)) (by have := hqD.le; omega) (fun p hp1 hp2 hM => by
          have hDp := hqD.below p (by omega) hM
          cases ha : ahead (Region.before ops) k p with
          | false => rfl
          | true =>
            have := h.clo k p (by have := hqD.le; omega) hDp ha
            rw [hj.un] at this; cases this)
        rw [← e2, ← h4, hi] at h5
        exact h5.symm
      · exact .inr ⟨k, h1, by rw [DS_ne e]; exact h2, h3, h4⟩
  · intro q hq k h1 h2 h3 oo h4
    rw [hX]
    by_cases e : k = j
    · subst e
      rw [if_pos rfl]
      rw [hobj, LH.get_new, if_pos rfl] at h4
      exact h4
    · rw [DS_ne e] at h2
      have := h.x2 q (fu_calm hq hm) k h1 h2 h3 oo h4
      rw [if_neg (fun e => by rw [e] at this; exact hXn _ this)]
      exact this

theorem fu_here {D : Nat → Bool} (hst : Stat P ops) {j : Nat} {o : Oper} (hj : Rdy ops D j o) (hm : isM P ops E j) : FU P ops E D j := by
  refine ⟨Nat.le_of_lt hj.lt, fun _ => ⟨hm, hj.un⟩, fun p hp hM => ?_⟩
  obtain ⟨op, ⟨hop, _⟩, hkp⟩ := hM
  obtain ⟨o', ⟨ho', _⟩, hk'⟩ := hm
  exact hj.pre p (hst.muts p j op o' hop ho' hp hk' hkp)

theorem DInv.full {R0 R : Ren} {w0 w : World} {a0 a : Act} {D : Nat → Bool} {X : Nat → Option LO} (h : DInv P ops S E H v R0 w0 a0 D R X a w) (ht : Trc P rec ops chk 0 [] S r E H v pan) (hst : Stat P ops) {j : Nat} {o : Oper} (hj : Rdy ops D j o)
    (hm : isM P ops E j) {U : List Nat} (hU : hidU P ops (E j) j o = some U) : ∀ i o, ((H j).hide U).get i = some o → X i = some o := by
  intro i oo hi
  rw [LH.get_hide] at hi
  split at hi
  · cases hi
  rename_i hni
  rcases h.x1 j (fu_here hst hj hm) i oo hi with h1 | ⟨k, h1, h2, hK, h4⟩
  · exact h1
  · exfalso
    obtain ⟨o', ⟨ho', _⟩, hk'⟩ := hm
    rw [hj.op] at ho'; cases ho'
    refine hni (h4 ▸ (ht.hid hst hj.op hk' hU).2 k h1 hK ?_)
    cases ha : ahead (Region.before ops) k j with
    | false => rfl
    | true =>
      have := hj.pre k ha
      rw [h2] at this; cases this

/-- What changes. -/
theorem DInv.mutate {R0 R R' : Ren} {w0 w w' : World} {a0 a : Act} {D : Nat → Bool} {X : Nat → Option LO} (h : DInv P ops S E H v R0 w0 a0 D R X a w) (ht : Trc P rec ops chk 0 [] S r E H v pan)
    (hN : ∀ t r, rec t = some r → t.next ≤ r.next) (hst : Stat P ops) (hd0 : Den R0 S.H w0) (hf0 : Fresh R0 S.H.next (H ops.size).next) {j : Nat} {o : Oper} (hj : Rdy ops D j o) (hm : isM P ops E j)
    {U : List Nat} (hU : hidU P ops (E j) j o = some U) {H1' : LH} (hH' : H (j + 1) = LH.back (H j) H1' U)
    (hg : Goes R ((H j).hide U) w R' H1' w') (hd : Den R' H1' w') (hl : LGo P ((H j).hide U) H1') {y : Value} (hy : DV R' (v j) y) :
    DInv P ops S E H v R0 w0 a0 (DS D j) R' (stepX X ((H j).hide U) H1') (a.put o.dst y) w' := by
  have hlt := hj.lt
  have hfu := fu_here hst hj hm
  have hs := h.full ht hst hj hm hU
  have hkm : okind P o = .mut := by
    obtain ⟨o', ⟨ho', _⟩, hk'⟩ := hm
    rw [hj.op] at ho'; cases ho'; exact hk'
  have hid := ht.hid hst hj.op hkm hU
  have hlH : LGo P (H j) (H (j + 1)) := by rw [hH']; exact hl.put_back
  have low : ∀ i ∈ U, i < (H j).next := fun i hi => by
    obtain ⟨k, h1, hK, _, h3⟩ := hid.1 i hi
    obtain ⟨obj, e⟩ := ht.makes hK
    have := ht.le hN (a := k + 1) (b := j) h1 (Nat.le_of_lt hlt)
    rw [e] at this; simp at this; omega
  have past : ∀ m, j + 1 ≤ m → m < ops.size → isK P ops E m → stepX X ((H j).hide U) H1' (H m).next = X (H m).next := fun m h1 h2 hK => by
    have hle := ht.le hN h1 (Nat.le_of_lt h2)
    have hlt2 : (H m).next < (H ops.size).next := by
      have h3 := ht.le hN (a := m + 1) (b := ops.size) h2 (Nat.le_refl _)
      obtain ⟨obj, e⟩ := ht.makes hK
      rw [e] at h3; simp at h3; omega
    have hle0 := ht.le hN (Nat.le_succ j) hlt
    unfold stepX
    rw [if_neg]
    rintro (hc | hc)
    · obtain ⟨oo, hoo⟩ := Option.isSome_iff_exists.1 hc
      rw [LH.get_hide] at hoo
      split at hoo
      · cases hoo
      · exact h.bnd ht hd0 hf0 hfu (Nat.le_refl _) hoo ⟨by simp only [Nat.succ_eq_add_one] at hle0; omega, hlt2⟩
    · have : (H (j + 1)).next = H1'.next := by rw [hH', LH.next_back]
      omega
  have later : ∀ {q}, FU P ops E (DS D j) q → j + 1 ≤ q := fun {q} hq => by
    rcases Nat.lt_or_ge j q with h1 | h1
    · exact h1
    · exfalso
      have hqs : q < ops.size := by omega
      obtain ⟨hMq, hDq⟩ := hq.here hqs
      obtain ⟨hDq, hne⟩ := DS_false hDq
      have := hfu.below q (by omega) hMq
      rw [hDq] at this; cases this
  refine h.go ht hN hst hj hs (LH.next_hide _ _) (by rw [hH', LH.next_back]) hg hd hl hy hlH ?_ ?_
  · intro q hq i oo hi
    have hjq := later hq
    have hnM : ∀ p, j + 1 ≤ p → p < j + 1 + (q - (j + 1)) → ¬ isM P ops E p := fun p hp1 hp2 hM => by
      have hDp := hq.below p (by omega) hM
      rw [DS_ne (by omega)] at hDp
      obtain ⟨op, ⟨hop, _⟩, hkp⟩ := hM
      have := hst.muts j p o op hj.op hop (by omega) hkp hkm
      have := h.clo j p (by have := hq.le; omega) hDp this
      rw [hj.un] at this; cases this
    have e2 : q = j + 1 + (q - (j + 1)) := by omega
    rw [e2] at hi
    rcases ht.down _ (by have := hq.le; omega) hnM hi with h5 | ⟨m, h5, h6, h7, h8, h9⟩
    · rw [hH', LH.get_back] at h5
      by_cases hiU : i ∈ U
      · have hil := low i hiU
        have hn1 : ((H j).hide U).get i = none := by rw [LH.get_hide, if_pos hiU]
        have hX : stepX X ((H j).hide U) H1' i = X i := by
          unfold stepX
          rw [if_neg]
          rintro (hc | hc)
          · rw [hn1] at hc; cases hc
          · rw [LH.next_hide] at hc; omega
        rw [hX]
        have h6 : (H j).get i = some oo := by
          split at h5
          · exact h5
          · exfalso
            rcases hl.back i oo h5 with ⟨h1, _⟩ | ⟨o', h1, _⟩
            · rw [LH.next_hide] at h1; omega
            · rw [hn1] at h1; cases h1
        rcases h.x1 j hfu i oo h6 with h7 | ⟨k, h7, h8, h9⟩
        · exact .inl h7
        · exact .inr ⟨k, by omega, by rw [DS_ne (by omega)]; exact h8, h9⟩
      · rw [if_neg (fun hc => hiU hc.1)] at h5
        left
        unfold stepX
        rw [if_pos]
        · exact h5
        · rcases hl.back i oo h5 with ⟨h1, h2, _⟩ | ⟨o', h1, _⟩
          · exact .inr ⟨h1, h2⟩
          · exact .inl (by rw [h1]; rfl)
    · cases hDm : D m with
      | true =>
        left
        subst h8
        rw [past m h5 (by have := hq.le; omega) h7]
        exact h.x2 j hfu m (by omega) hDm h7 oo h9
      | false => exact .inr ⟨m, by omega, by rw [DS_ne (by omega)]; exact hDm, h7, h8⟩
  · intro q hq k h1 h2 h3 oo h4
    have hjq := later hq
    rw [DS_ne (by omega)] at h2
    have hks : k < ops.size := by obtain ⟨_, ⟨hok, _⟩, _⟩ := h3; exact (Array.getElem?_eq_some_iff.1 hok).1
    rw [past k (by omega) hks h3]
    exact h.x2 j hfu k (by omega) h2 h3 oo h4

end
end Go.Lv
