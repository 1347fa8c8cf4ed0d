/- Lv: regions that draw their order: what the check says; the slots after some of the operations. -/
import Derived.Test.YthakgknamfopcaaLvTrc
namespace Go.Lv
open Go
set_option linter.unusedVariables false
set_option linter.unusedSimpArgs false

structure Stat (P : Program) (ops : Array Oper) : Prop where
  names : ∀ (i j : Nat) (p o : Oper) (t : Nat), ops[i]? = some p → ops[j]? = some o → p.dst = some t → i ≠ j → (t ∈ o.looksAt ops ∨ o.dst = some t) →
    (i < j → ahead (Region.before ops) i j = true) ∧ (j < i → ahead (Region.before ops) j i = true)
  edges : ∀ (i : Nat) (o : Oper), ops[i]? = some o → ∀ e ∈ o.after, Region.binds .any e = true → e.on < i
  guards : ∀ (j : Nat) (o : Oper) (g : Nat) (want : Bool), ops[j]? = some o → o.guard = some (g, want) → ∃ t, (ops[g]?).bind (·.dst) = some t
  nodef : ∀ (j : Nat) (o : Oper), ops[j]? = some o → ∀ c, o.op ≠ .defer c
  muts : ∀ (i j : Nat) (p o : Oper), ops[i]? = some p → ops[j]? = some o → i < j → okind P o = .mut → okind P p = .mut → ahead (Region.before ops) i j = true
  mks : ∀ (i j : Nat) (p o : Oper), ops[i]? = some p → ops[j]? = some o → i < j → okind P o = .mut → okind P p = .make →
    ahead (Region.before ops) i j = true ∨ ∃ t, p.dst = some t ∧ ∀ (m : Nat) (q : Oper), ops[m]? = some q → m ≠ i → q.dst ≠ some t

theorem zip_all {f : Oper × Nat → Bool} {ops : Array Oper} (h : (ops.toList.zipIdx.all f) = true) {i : Nat} {o : Oper} (ho : ops[i]? = some o) : f (o, i) = true := by
  rw [List.all_eq_true] at h
  exact h (o, i) (List.mem_zipIdx_iff_getElem?.2 (by simpa using ho))

theorem stat_of {P : Program} {ops : Array Oper} (h : drawOk P ops = true) : Stat P ops := by
  simp only [drawOk, Bool.and_eq_true] at h
  obtain ⟨⟨⟨h1, _⟩, h2⟩, h3⟩ := h
  refine ⟨?_, ?_, ?_, ?_, ?_, ?_⟩
  · intro i j p o t hi hj hp hne hor
    have h4 := zip_all h1 hi
    simp only [hp] at h4
    have h5 := zip_all h4 hj
    simp only [Bool.or_eq_true, beq_iff_eq] at h5
    rcases h5 with (h5 | h5) | h5
    · exact absurd h5 hne
    · simp only [Bool.and_eq_true, Bool.not_eq_true', bne_iff_ne, ne_eq] at h5
      rcases hor with h6 | h6
      · rw [List.contains_iff_mem.2 h6] at h5; simp at h5
      · exact absurd h6 h5.2
    · constructor
      · intro hlt; rw [if_pos hlt] at h5; exact h5
      · intro hlt; rw [if_neg (by omega)] at h5; exact h5
  · intro i o ho e he hb
    have h4 := zip_all h2 ho
    simp only [Bool.and_eq_true] at h4
    have h5 := h4.1.1
    rw [Array.all_eq_true_iff_forall_mem] at h5
    have := h5 e he
    rw [hb] at this
    simpa using this
  · intro j o g want ho hg
    have h4 := zip_all h2 ho
    simp only [Bool.and_eq_true, hg] at h4
    exact Option.isSome_iff_exists.1 h4.1.2.2
  · intro j o ho c hc
    have h4 := zip_all h2 ho
    simp only [Bool.and_eq_true, hc] at h4
    exact absurd h4.2 (by simp)
  · intro i j p o hi hj hlt hk hkp
    have h4 := zip_all h3 hi
    have h5 := zip_all h4 hj
    simp only [hk, hkp, hlt, beq_self_eq_true, decide_true, Bool.true_and, Bool.true_or, Bool.not_true, Bool.false_or, Bool.or_eq_true, Bool.and_eq_true] at h5
    rcases h5 with h5 | h5
    · exact h5
    · exact absurd h5.1 (by simp)
  · intro i j p o hi hj hlt hk hkp
    have h4 := zip_all h3 hi
    have h5 := zip_all h4 hj
    simp only [hk, hkp, hlt, beq_self_eq_true, decide_true, Bool.true_and, Bool.or_true, Bool.not_true, Bool.false_or, Bool.or_eq_true] at h5
    rcases h5 with h5 | h5
    · exact .inl h5
    · right
      unfold ownDst at h5
      split at h5
      · rename_i t ht
        refine ⟨t, ht, fun m q hm hne hd => ?_⟩
        have h6 := zip_all h5 hm
        simp only [Bool.or_eq_true, beq_iff_eq, bne_iff_ne, ne_eq] at h6
        rcases h6 with h6 | h6
        · exact hne h6.symm
        · exact h6 hd
      · cases h5

theorem confl_nil {P : Program} {ops : Array Oper} (h : (confl P ops).isEmpty = true) {i j : Nat} {p o : Oper} (hi : ops[i]? = some p) (hj : ops[j]? = some o) (hlt : i < j)
    (hk : (okind P p = .read ∧ okind P o = .mut) ∨ (okind P p = .mut ∧ okind P o = .read)) : ahead (Region.before ops) i j = true := by
  cases ha : ahead (Region.before ops) i j with
  | true => rfl
  | false =>
    exfalso
    have hm : (i, j) ∈ confl P ops := by
      unfold confl
      simp only [List.mem_flatMap, List.mem_filterMap, List.mem_filter]
      refine ⟨(p, i), ⟨List.mem_zipIdx_iff_getElem?.2 (by simpa using hi), ?_⟩, (o, j), ⟨List.mem_zipIdx_iff_getElem?.2 (by simpa using hj), ?_⟩, ?_⟩
      · rcases hk with ⟨h1, _⟩ | ⟨h1, _⟩ <;> simp [h1]
      · rcases hk with ⟨_, h1⟩ | ⟨_, h1⟩ <;> simp [h1]
      · rcases hk with ⟨h1, h2⟩ | ⟨h1, h2⟩ <;> simp [h1, h2, hlt, ha]
    rw [List.isEmpty_iff] at h
    rw [h] at hm
    cases hm

/-! ### the slots -/
def envD (ops : Array Oper) (v : Nat → LV) (E0 : Env) (D : Nat → Bool) : Nat → Env
  | 0 => E0
  | n + 1 => match ops[n]? with
    | some o => if D n then (envD ops v E0 D n).putO o.dst (v n) else envD ops v E0 D n
    | none => envD ops v E0 D n

theorem Env.n_putO (E : Env) (d : Option Nat) (v : LV) : (E.putO d v).n = E.n := by cases d <;> simp [Env.putO]
theorem Env.g_putO (E : Env) (d : Option Nat) (v : LV) : (E.putO d v).g = E.g := by cases d <;> simp [Env.putO]
theorem Env.get_putO (E : Env) (d : Option Nat) (v : LV) (t : Nat) : (E.putO d v).get t = if d = some t ∧ t < E.n then some v else E.get t := by
  cases d with
  | none => simp [Env.putO]
  | some k =>
    simp only [Env.putO, Env.get_put, Option.some.injEq]
    by_cases e : t = k
    · subst e; simp
    · simp [e, Ne.symm e]

section
variable {P : Program} {rec : Task → Option Res} {ops : Array Oper} {chk : Bool} {recs : List DRec} {S : FS} {r : FR} {E : Nat → Env} {H : Nat → LH} {v : Nat → LV} {pan : Bool}

theorem envD_n (D : Nat → Bool) : ∀ n, (envD ops v S.E D n).n = S.E.n ∧ (envD ops v S.E D n).g = S.E.g
  | 0 => ⟨rfl, rfl⟩
  | n + 1 => by
    have := envD_n D n
    simp only [envD]
    split
    · split
      · rw [Env.n_putO, Env.g_putO]; exact this
      · exact this
    · exact this

theorem Trc.n (ht : Trc P rec ops chk 0 recs S r E H v pan) : ∀ n, n ≤ ops.size → (E n).n = S.E.n ∧ (E n).g = S.E.g
  | 0, _ => by rw [ht.e0]; exact ⟨rfl, rfl⟩
  | n + 1, h => by
    have ih := ht.n n (by omega)
    have ho : ops[n]? = some ops[n] := Array.getElem?_eq_getElem h
    rw [ht.env n _ (Nat.zero_le _) ho]
    split
    · exact ih
    · rw [Env.n_putO, Env.g_putO]; exact ih

theorem envD_congr {D D' : Nat → Bool} : ∀ n, (∀ i, i < n → D i = D' i) → envD ops v S.E D n = envD ops v S.E D' n
  | 0, _ => rfl
  | n + 1, h => by
    simp only [envD]
    rw [envD_congr n (fun i hi => h i (by omega)), h n (by omega)]

theorem envD_all (ht : Trc P rec ops chk 0 recs S r E H v pan) {D : Nat → Bool} : ∀ n, n ≤ ops.size → (pan = true → n < ops.size) → (∀ i, i < n → D i = true) → envD ops v S.E D n = E n
  | 0, _, _, _ => ht.e0.symm
  | n + 1, h, hp, hD => by
    have ho : ops[n]? = some ops[n] := Array.getElem?_eq_getElem h
    simp only [envD, ho, hD n (by omega), if_true]
    rw [envD_all ht n (by omega) (fun h => by have := hp h; omega) (fun i hi => hD i (by omega)), ht.env n _ (Nat.zero_le _) ho]
    cases pan with
    | false => rfl
    | true => have := hp rfl; rw [if_neg (by simp; omega)]

theorem envD_low (ht : Trc P rec ops chk 0 recs S r E H v pan) {D : Nat → Bool} {t : Nat} : ∀ n, n < ops.size → (∀ i p, i < n → ops[i]? = some p → p.dst = some t → D i = true) →
    (envD ops v S.E D n).get t = (E n).get t
  | 0, _, _ => by rw [ht.e0]; rfl
  | n + 1, h, hD => by
    have ho : ops[n]? = some ops[n] := Array.getElem?_eq_getElem (by omega)
    have ih := envD_low ht (t := t) n (by omega) (fun i p hi => hD i p (by omega))
    rw [ht.env n _ (Nat.zero_le _) ho, if_neg (by simp; omega)]
    simp only [envD, ho]
    rw [Env.get_putO, (ht.n n (by omega)).1]
    split
    · rw [Env.get_putO, (envD_n D n).1, ih]
    · rename_i hf
      rw [ih, if_neg]
      rintro ⟨h1, _⟩
      exact hf (hD n _ (by omega) ho h1)

theorem envD_high {D : Nat → Bool} {t j : Nat} : ∀ k, (∀ i p, j ≤ i → i < j + k → ops[i]? = some p → D i = true → p.dst ≠ some t) →
    (envD ops v S.E D (j + k)).get t = (envD ops v S.E D j).get t
  | 0, _ => rfl
  | k + 1, hD => by
    have ih := envD_high k (fun i p h1 h2 => hD i p h1 (by omega))
    show (envD ops v S.E D (j + k + 1)).get t = _
    simp only [envD]
    split
    · rename_i o ho
      split
      · rename_i hd
        rw [Env.get_putO, if_neg (fun h => hD (j + k) o (by omega) (by omega) ho hd h.1), ih]
      · exact ih
    · exact ih

/-- What the operation j looks at is what it looks at in the order of the text. -/
theorem envD_looks (ht : Trc P rec ops chk 0 recs S r E H v pan) (hst : Stat P ops) {D : Nat → Bool} {j : Nat} {o : Oper} (ho : ops[j]? = some o) (hj : D j = false)
    (hpre : ∀ i, ahead (Region.before ops) i j = true → D i = true) (hclo : ∀ i k, k < ops.size → D k = true → ahead (Region.before ops) i k = true → D i = true)
    {t : Nat} (htl : t ∈ o.looksAt ops) : (envD ops v S.E D ops.size).get t = (E j).get t := by
  have hjs : j < ops.size := (Array.getElem?_eq_some_iff.1 ho).1
  have e : ops.size = j + (ops.size - j) := by omega
  rw [e, envD_high, envD_low ht j hjs]
  · intro i p hi hp hd
    exact hpre i ((hst.names i j p o t hp ho hd (by omega) (.inl htl)).1 hi)
  · intro i p h1 h2 hp hd hdst
    by_cases e1 : i = j
    · subst e1; rw [hj] at hd; cases hd
    · have := (hst.names i j p o t hp ho hdst e1 (.inl htl)).2 (by omega)
      have := hclo j i (by omega) hd this
      rw [hj] at this; cases this

theorem EnvR.congr {R : Ren} {E E' : Env} {tmps : Array Value} (h : EnvR R E tmps) (hn : E'.n = E.n) (hg : E'.g = E.g) (hget : ∀ k, E'.get k = E.get k) : EnvR R E' tmps :=
  ⟨h.size.trans hn.symm, fun k v hk => h.slot k v (by rw [← hget]; exact hk), fun k hk => h.glob k (by rw [← hg]; exact hk)⟩

/-- And the slots after it. -/
theorem envD_put (hst : Stat P ops) {D : Nat → Bool} {j : Nat} {o : Oper} (ho : ops[j]? = some o) (hj : D j = false)
    (hclo : ∀ i k, k < ops.size → D k = true → ahead (Region.before ops) i k = true → D i = true) (t : Nat) : ∀ k, j + 1 + k ≤ ops.size →
    (envD ops v S.E (fun i => D i || i == j) (j + 1 + k)).get t = ((envD ops v S.E D (j + 1 + k)).putO o.dst (v j)).get t
  | 0, h => by
    have e : envD ops v S.E (fun i => D i || i == j) j = envD ops v S.E D j := envD_congr j (fun i hi => by
      have : (i == j) = false := by simp; omega
      simp [this])
    show (envD ops v S.E (fun i => D i || i == j) (j + 1)).get t = ((envD ops v S.E D (j + 1)).putO o.dst (v j)).get t
    simp only [envD, ho, hj, beq_self_eq_true, Bool.or_true, if_true, e, Bool.false_eq_true, if_false]
  | k + 1, h => by
    have ih := envD_put hst ho hj hclo t k (by omega)
    have hn : ∀ D', (envD ops v S.E D' (j + 1 + k)).n = S.E.n := fun D' => (envD_n D' _).1
    have hp : ops[j + 1 + k]? = some ops[j + 1 + k] := Array.getElem?_eq_getElem (by omega)
    have hne : (j + 1 + k == j) = false := by simp; omega
    show (envD ops v S.E (fun i => D i || i == j) (j + 1 + k + 1)).get t = ((envD ops v S.E D (j + 1 + k + 1)).putO o.dst (v j)).get t
    simp only [envD, hp, hne, Bool.or_false]
    split
    · rename_i hd
      rw [Env.get_putO, Env.get_putO, Env.get_putO, ih, Env.get_putO, Env.n_putO, hn, hn]
      by_cases h1 : (ops[j + 1 + k]).dst = some t ∧ t < S.E.n
      · rw [if_pos h1, if_pos h1]
        rw [if_neg]
        rintro ⟨h2, _⟩
        have := (hst.names (j + 1 + k) j _ o t hp ho h1.1 (by omega) (.inr h2)).2 (by omega)
        have := hclo j _ (by omega) hd this
        rw [hj] at this; cases this
      · rw [if_neg h1, if_neg h1]
    · exact ih

end
end Go.Lv
