/- Lv: what a law's arguments are, laid out as a logical heap: whatever they read as. -/
import Derived.Test.YthakgknamfopcaaLvKnown
import Derived.Test.YthakgknamfopcaaLvLaid
namespace Go.Lv
open Go Go.RowKit Go.ChangeShapes
set_option linter.unusedVariables false
set_option linter.unusedSimpArgs false

section
variable {P : Program} {H : Type} {enc : TypeId × Value → H} {w : World} {gl : List (Nat × List LV)}

/-- Fields one behind the other. -/
def contig (P : Program) : Nat → List Field → Nat → Bool
  | o, [], n => o == n
  | o, f :: fs, n => f.offset == o && contig P (o + P.cellsOf f.type) fs n

/-- Types of plain data (no maps, no pointers). -/
def sup (P : Program) : Nat → TypeId → Bool
  | 0, _ => false
  | f + 1, t =>
    match P.underlying t with
    | some .bool | some (.int _) | some .string => true
    | some (.slice e) => decide (0 < P.cellsOf e) && sup P f e
    | some (.struct fs) => (fs.toList.all fun fd => sup P f fd.type) && contig P 0 fs.toList (P.cellsOf t)
    | some (.array n e) => sup P f e && P.cellsOf t == n * P.cellsOf e
    | _ => false

def All2 {α β : Type} (R : α → β → Prop) : List α → List β → Prop
  | [], [] => True
  | a :: as, b :: bs => R a b ∧ All2 R as bs
  | _, _ => False

/-- A type's cells, of plain data. -/
def LOk (P : Program) (Hp : LH) : Nat → TypeId → List LV → Prop
  | 0, _, _ => False
  | f + 1, t, ls =>
    match P.underlying t with
    | some .bool => ∃ b, ls = [.bool b]
    | some (.int k) => ∃ n, ls = [.int k n] ∧ (Lit.int k n).wf = true
    | some .string => ∃ s : List UInt8, ls = [.str s] ∧ s.length ≤ maxLen
    | some (.slice e) => ls = [.slice none 0 (.ex 0)] ∨ ls = [.emp] ∨ ∃ (i len cap : Nat) (xs : List LV) (el : Nat) (lss : List (List LV)), ls = [.slice (some (i, 0)) len (.ex cap)] ∧ 0 < len ∧ len ≤ cap ∧ cap ≤ maxLen ∧ P.globals.size ≤ i ∧ i < Hp.next ∧
        Hp.get i = some (.cells xs el false false) ∧ xs = lss.flatten ∧ lss.length = len ∧ ∀ l ∈ lss, l.length = P.cellsOf e ∧ LOk P Hp f e l
    | some (.struct fs) => ∃ lss : List (List LV), ls = lss.flatten ∧ ls.length = P.cellsOf t ∧ All2 (fun (fd : Field) l => l.length = P.cellsOf fd.type ∧ LOk P Hp f fd.type l) fs.toList lss
    | some (.array n e) => ∃ lss : List (List LV), ls = lss.flatten ∧ lss.length = n ∧ ∀ l ∈ lss, l.length = P.cellsOf e ∧ LOk P Hp f e l
    | _ => False

theorem All2.mono {α β : Type} {R R' : α → β → Prop} (h : ∀ a b, R a b → R' a b) : ∀ {as : List α} {bs : List β}, All2 R as bs → All2 R' as bs
  | [], [], _ => trivial
  | a :: as, b :: bs, k => ⟨h a b k.1, All2.mono h k.2⟩
  | [], _ :: _, k => k.elim
  | _ :: _, [], k => k.elim

/-- The heap goes on: what is there stays. -/
theorem LOk.mono {Hp Hp' : LH} (hn : Hp.next ≤ Hp'.next) (hg : ∀ i o, P.globals.size ≤ i → Hp.get i = some o → Hp'.get i = some o) : ∀ (f : Nat) (t : TypeId) (ls : List LV), LOk P Hp f t ls → LOk P Hp' f t ls
  | 0, _, _, h => h
  | f + 1, t, ls, h => by
    unfold LOk at h ⊢
    split at h
    · exact h
    · exact h
    · exact h
    · rcases h with h | h | ⟨i, len, cap, xs, el, lss, h1, h2, h3, h4, h5, h6, h7, h8, h9, h10⟩
      · exact .inl h
      · exact .inr (.inl h)
      · exact .inr (.inr ⟨i, len, cap, xs, el, lss, h1, h2, h3, h4, h5, by omega, hg _ _ h5 h7, h8, h9, fun l hl => ⟨(h10 l hl).1, LOk.mono hn hg f _ l (h10 l hl).2⟩⟩)
    · obtain ⟨lss, h1, h2, h3⟩ := h
      exact ⟨lss, h1, h2, h3.mono fun a b hab => ⟨hab.1, LOk.mono hn hg f _ b hab.2⟩⟩
    · obtain ⟨lss, h1, h2, h3⟩ := h
      exact ⟨lss, h1, h2, fun l hl => ⟨(h3 l hl).1, LOk.mono hn hg f _ l (h3 l hl).2⟩⟩
    · exact h

/-- What is told of the blocks is so. -/
structure Cons (P : Program) (w : World) (gl : List (Nat × List LV)) (bs : List (Option (List LV × Nat))) (tr : List (Nat × Nat × Nat)) : Prop where
  len : tr.length = bs.length
  ok : ∀ (k : Nat) cs el b d e, bs[k]? = some (some (cs, el)) → tr[k]? = some (b, d, e) → DO (inR P gl tr) w.heap[b]? d e (.cells cs el false false)

theorem inR_mono (tr tr' : List (Nat × Nat × Nat)) : RLe (inR P gl tr) (inR P gl (tr ++ tr')) := fun i x h => by
  unfold inR at h ⊢
  by_cases hi : i < P.globals.size
  · rw [if_pos hi] at h ⊢; exact h
  · rw [if_neg hi] at h ⊢
    have h1 := (List.getElem?_eq_some_iff.1 h).1
    rw [List.getElem?_append_left h1]; exact h

theorem inH_next (bs : List (Option (List LV × Nat))) : (inH P gl bs).next = P.globals.size + bs.length := rfl
theorem inH_some (hgl : ∀ i cs, (i, cs) ∈ gl → i < P.globals.size) {bs : List (Option (List LV × Nat))} {k : Nat} {cs : List LV} {el : Nat} (h : bs[k]? = some (some (cs, el))) : (inH P gl bs).get (P.globals.size + k) = some (.cells cs el false false) := by
  have key : ∀ (l : List (Option (List LV × Nat))) (n : Nat) (t : Tr LO), (∀ j, n ≤ j → t.get (P.globals.size + j) = none) → ∀ k, n ≤ k → l[k - n]? = some (some (cs, el)) →
      ((l.zipIdx n).foldl (fun (t : Tr LO) p => match p.1 with | some (cs, el) => t.set (P.globals.size + p.2) (some (.cells cs el false false)) | none => t) t).get (P.globals.size + k) = some (.cells cs el false false) := by
    intro l
    induction l with
    | nil => intro n t _ k _ hk; simp at hk
    | cons o l ih =>
      intro n t ht k hnk hk
      simp only [List.zipIdx_cons, List.foldl_cons]
      by_cases e : k = n
      · subst e
        simp at hk
        subst hk
        have stay : ∀ (l : List (Option (List LV × Nat))) (n : Nat) (t : Tr LO), k < n → ((l.zipIdx n).foldl (fun (t : Tr LO) p => match p.1 with | some (cs, el) => t.set (P.globals.size + p.2) (some (.cells cs el false false)) | none => t) t).get (P.globals.size + k) = t.get (P.globals.size + k) := by
          intro l
          induction l with
          | nil => intro n t _; rfl
          | cons o l ih2 =>
            intro n t hn
            simp only [List.zipIdx_cons, List.foldl_cons]
            rw [ih2 (n + 1) _ (by omega)]
            cases o with
            | none => rfl
            | some q => simp only [Tr.get_set]; rw [if_neg (by omega)]
        rw [stay l (k + 1) _ (by omega)]
        simp
      · refine ih (n + 1) _ (fun j hj => ?_) k (by omega) ?_
        · cases o with
          | none => exact ht j (by omega)
          | some q => simp only [Tr.get_set]; rw [if_neg (by omega)]; exact ht j (by omega)
        · have : k - n = (k - (n + 1)) + 1 := by omega
          rw [this, List.getElem?_cons_succ] at hk
          exact hk
  refine key bs 0 (glT gl) (fun j _ => ?_) k (Nat.zero_le _) (by simpa using h)
  cases hj : (glT gl).get (P.globals.size + j) with
  | none => rfl
  | some o =>
    obtain ⟨cs, h1, _⟩ := glT_get gl _ o hj
    have := hgl _ _ (List.mem_of_find?_eq_some h1)
    omega
theorem inH_glob (bs : List (Option (List LV × Nat))) {i : Nat} (hi : i < P.globals.size) : (inH P gl bs).get i = (glT gl).get i := by
  have key : ∀ (l : List (Option (List LV × Nat) × Nat)) (t : Tr LO), (l.foldl (fun (t : Tr LO) p => match p.1 with | some (cs, el) => t.set (P.globals.size + p.2) (some (.cells cs el false false)) | none => t) t).get i = t.get i := by
    intro l
    induction l with
    | nil => exact fun t => rfl
    | cons p l ih =>
      intro t
      simp only [List.foldl_cons]
      rw [ih]
      obtain ⟨q, k⟩ := p
      cases q with
      | none => rfl
      | some q => simp only [Tr.get_set]; rw [if_neg (by omega)]
  exact key _ _
theorem inH_mono (hgl : ∀ i cs, (i, cs) ∈ gl → i < P.globals.size) (bs bs' : List (Option (List LV × Nat))) : (inH P gl bs).next ≤ (inH P gl (bs ++ bs')).next ∧ ∀ i o, P.globals.size ≤ i → (inH P gl bs).get i = some o → (inH P gl (bs ++ bs')).get i = some o := by
  refine ⟨by simp [inH_next], fun i o hi h => ?_⟩
  rcases inH_get gl bs i o h with ⟨k, cs, el, rfl, h2, rfl⟩ | ⟨cs, h1, rfl⟩
  · exact inH_some hgl (by rw [List.getElem?_append_left (List.getElem?_eq_some_iff.1 h2).1]; exact h2)
  · have := hgl _ _ (List.mem_of_find?_eq_some h1)
    omega

theorem Cons.nil : Cons P w gl [] [] := ⟨rfl, fun k cs el b d e h => by simp at h⟩

/-- A further block. -/
theorem Cons.snoc {bs : List (Option (List LV × Nat))} {tr : List (Nat × Nat × Nat)} (h : Cons P w gl bs tr) {cs : List LV} {b d : Nat} {arr : Array Value} {el' : TypeId} {fr : Nat × Nat} (hb : w.heap[b]? = some (.cells arr el' fr))
    (hl : d + cs.length ≤ arr.size) (hc : DVs (inR P gl tr) cs ((arr.toList.drop d).take cs.length)) : Cons P w gl (bs ++ [some (cs, 0)]) (tr ++ [(b, d, d + cs.length)]) := by
  refine ⟨by simp [h.len], fun k cs' el b' d' e' h1 h2 => ?_⟩
  by_cases hk : k < bs.length
  · rw [List.getElem?_append_left hk] at h1
    rw [List.getElem?_append_left (by rw [h.len]; exact hk)] at h2
    exact (h.ok k cs' el b' d' e' h1 h2).mono (inR_mono _ _)
  · have hk2 : k = bs.length := by
      have := (List.getElem?_eq_some_iff.1 h1).1
      simp at this
      omega
    subst hk2
    rw [List.getElem?_append_right (Nat.le_refl _)] at h1
    rw [← h.len, List.getElem?_append_right (Nat.le_refl _)] at h2
    simp at h1 h2
    obtain ⟨rfl, rfl⟩ := h1
    obtain ⟨rfl, rfl, rfl⟩ := h2
    refine ⟨arr, el', fr, hb, Nat.le_refl _, hl, fun k x hx => ?_, fun hh => by cases hh⟩
    obtain ⟨v, hv, hd⟩ := DVs_get hc k x hx
    have hk := (List.getElem?_eq_some_iff.1 hx).1
    rw [List.getElem?_take, if_pos hk, List.getElem?_drop] at hv
    exact ⟨v, by rw [← Array.getElem?_toList]; exact hv, DV_mono (inR_mono _ _) _ _ hd⟩

/-- Pieces, each laid. -/
theorem lay_list (hgl : ∀ i cs, (i, cs) ∈ gl → i < P.globals.size) {α : Type} (S : α → Nat) (ty : α → TypeId) (cells : α → List Value) : ∀ (l : List α),
    (∀ a ∈ l, ∀ bs tr, Cons P w gl bs tr → ∃ bs' tr' ls, Cons P w gl (bs ++ bs') (tr ++ tr') ∧ DVs (inR P gl (tr ++ tr')) ls (cells a) ∧ LOk P (inH P gl (bs ++ bs')) (S a) (ty a) ls) →
    ∀ bs tr, Cons P w gl bs tr → ∃ bs' tr' lss, Cons P w gl (bs ++ bs') (tr ++ tr') ∧ All2 (fun a ls => DVs (inR P gl (tr ++ tr')) ls (cells a) ∧ LOk P (inH P gl (bs ++ bs')) (S a) (ty a) ls) l lss
  | [], _, bs, tr, h => ⟨[], [], [], by simpa using h, trivial⟩
  | a :: l, hl, bs, tr, h => by
    obtain ⟨bs1, tr1, ls, h1, h2, h3⟩ := hl a List.mem_cons_self bs tr h
    obtain ⟨bs2, tr2, lss, h4, h5⟩ := lay_list hgl S ty cells l (fun b hb => hl b (List.mem_cons_of_mem _ hb)) _ _ h1
    refine ⟨bs1 ++ bs2, tr1 ++ tr2, ls :: lss, by simpa using h4, ⟨?_, ?_⟩, by simpa using h5⟩
    · rw [← List.append_assoc]; exact DVs_mono (inR_mono _ _) _ _ h2
    · rw [← List.append_assoc]
      obtain ⟨m1, m2⟩ := inH_mono (P := P) hgl (bs ++ bs1) bs2
      exact LOk.mono m1 m2 _ _ _ h3

theorem All2.flat {α : Type} {R : Ren} {Q : α → List LV → Prop} {cells : α → List Value} : ∀ {l : List α} {lss : List (List LV)}, All2 (fun a ls => DVs R ls (cells a) ∧ Q a ls) l lss → DVs R lss.flatten (l.flatMap cells)
  | [], [], _ => by simp [DVs]
  | a :: l, ls :: lss, h => by
    rw [List.flatten_cons, List.flatMap_cons]
    exact DVs_append h.1.1 h.2.flat
  | [], _ :: _, h => h.elim
  | _ :: _, [], h => h.elim
theorem All2.len {α β : Type} {R : α → β → Prop} : ∀ {as : List α} {bs : List β}, All2 R as bs → bs.length = as.length
  | [], [], _ => rfl
  | a :: as, b :: bs, k => by simp [k.2.len]
  | [], _ :: _, k => k.elim
  | _ :: _, [], k => k.elim
theorem All2.all {α β : Type} {R : α → β → Prop} {Q : β → Prop} (hq : ∀ a b, R a b → Q b) : ∀ {as : List α} {bs : List β}, All2 R as bs → ∀ b ∈ bs, Q b
  | [], [], _, b, hb => by simp at hb
  | a :: as, b :: bs, k, x, hx => by
    rcases List.mem_cons.1 hx with rfl | hx
    · exact hq _ _ k.1
    · exact k.2.all hq x hx
  | [], _ :: _, k, _, _ => k.elim
  | _ :: _, [], k, _, _ => k.elim
theorem All2.allm {α β : Type} {R : α → β → Prop} {Q : β → Prop} : ∀ {as : List α} {bs : List β}, All2 R as bs → (∀ a b, a ∈ as → R a b → Q b) → ∀ b ∈ bs, Q b
  | [], [], _, _, b, hb => by simp at hb
  | a :: as, b :: bs, k, hq, x, hx => by
    rcases List.mem_cons.1 hx with rfl | hx
    · exact hq a _ List.mem_cons_self k.1
    · exact k.2.allm (fun a b ha => hq a b (List.mem_cons_of_mem _ ha)) x hx
  | [], _ :: _, k, _, _, _ => k.elim
  | _ :: _, [], k, _, _, _ => k.elim
theorem All2.map {α β γ : Type} {R : α → β → Prop} (g : γ → α) : ∀ {as : List γ} {bs : List β}, All2 (fun a b => R (g a) b) as bs → All2 R (as.map g) bs
  | [], [], _ => trivial
  | a :: as, b :: bs, k => ⟨k.1, k.2.map g⟩
  | [], _ :: _, k => k.elim
  | _ :: _, [], k => k.elim

theorem contig_flat (cs : List Value) : ∀ (fs : List Field) (o : Nat), contig P o fs cs.length = true → (fs.flatMap fun f => (cs.drop f.offset).take (P.cellsOf f.type)) = cs.drop o
  | [], o, h => by
    simp [contig] at h
    simp [h]
  | f :: fs, o, h => by
    simp only [contig, Bool.and_eq_true, beq_iff_eq] at h
    obtain ⟨rfl, h⟩ := h
    rw [List.flatMap_cons, contig_flat cs fs _ h, ← List.drop_drop, List.take_append_drop]
theorem contig_le (cs : List Value) : ∀ (fs : List Field) (o : Nat), contig P o fs cs.length = true → o ≤ cs.length ∧ ∀ f ∈ fs, f.offset + P.cellsOf f.type ≤ cs.length
  | [], o, h => by
    simp [contig] at h
    simp [h]
  | f :: fs, o, h => by
    simp only [contig, Bool.and_eq_true, beq_iff_eq] at h
    obtain ⟨rfl, h⟩ := h
    obtain ⟨h1, h2⟩ := contig_le cs fs _ h
    refine ⟨by omega, fun g hg => ?_⟩
    rcases List.mem_cons.1 hg with rfl | hg
    · exact h1
    · exact h2 g hg
theorem range_flat (cs : List Value) (s : Nat) : ∀ (n k : Nat), k + n * s = cs.length → ((List.range n).flatMap fun i => (cs.drop (k + i * s)).take s) = cs.drop k
  | 0, k, h => by simp; omega
  | n + 1, k, h => by
    rw [List.range_succ_eq_map, List.flatMap_cons, List.flatMap_map]
    have e : (fun i => (cs.drop (k + Nat.succ i * s)).take s) = fun i => (cs.drop ((k + s) + i * s)).take s := by
      funext i; congr 2; rw [Nat.succ_mul]; omega
    have e2 : ((List.range n).flatMap fun a => (cs.drop (k + (a + 1) * s)).take s) = cs.drop (k + s) := by
      have := range_flat cs s n (k + s) (by rw [Nat.succ_mul] at h; omega)
      rw [← this]
      congr 1
    have e3 : (fun a => List.take s (List.drop (k + Nat.succ a * s) cs)) = fun a => List.take s (List.drop (k + (a + 1) * s) cs) := rfl
    have e4 : cs.drop (k + s) = (cs.drop k).drop s := by rw [List.drop_drop]
    rw [e3, e2, e4]
    simp only [Nat.zero_mul, Nat.add_zero]
    exact List.take_append_drop s (cs.drop k)

theorem cells_of {base : Nat} {a : Addr} {n : Nat} {x : List Value} (hn : 0 < n) (h : w.cells? base a n = some x) : ∃ arr el fr, w.heap[a.block]? = some (.cells arr el fr) ∧ x = (arr.toList.drop a.off).take n ∧ a.off + n ≤ arr.size ∧ a.spot = none := by
  obtain ⟨_, h2, h3⟩ := World.cells?_some h
  have h0 := h3 0 hn
  obtain ⟨y, hy⟩ : ∃ y, x[0]? = some y := ⟨x[0]'(by omega), List.getElem?_eq_getElem _⟩
  rw [hy] at h0
  have e0 : a.add 0 = a := by simp [Addr.add]
  rw [e0] at h0
  unfold World.cell? at h0
  split at h0
  · rename_i arr el fr hb
    have hs : a.spot = none := by
      cases hsp : a.spot with
      | none => rfl
      | some q => rw [hsp] at h0; simp at h0
    have each : ∀ i, i < n → arr[a.off + i]? = x[i]? := fun i hi => by
      have h4 := h3 i hi
      have e1 : (a.add i).block = a.block ∧ (a.add i).off = a.off + i ∧ (a.add i).spot = none := by
        unfold Addr.add
        split
        · rename_i h; subst h; exact ⟨rfl, rfl, hs⟩
        · exact ⟨rfl, rfl, rfl⟩
      unfold World.cell? at h4
      rw [e1.1, hb] at h4
      simp only [e1.2.1, e1.2.2] at h4
      simpa using h4
    have hsz : a.off + n ≤ arr.size := by
      have h5 := each (n - 1) (by omega)
      rw [List.getElem?_eq_getElem (by omega)] at h5
      have := (Array.getElem?_eq_some_iff.1 h5).1
      omega
    refine ⟨arr, el, fr, hb, ?_, hsz, hs⟩
    apply List.ext_getElem?
    intro i
    by_cases hi : i < n
    · rw [List.getElem?_take, if_pos hi, List.getElem?_drop, ← each i hi]; simp
    · rw [List.getElem?_eq_none (by omega), List.getElem?_eq_none (by simp; omega)]
  · cases h0

theorem DVs_single {R : Ren} {x : LV} {v : Value} (h : DV R x v) : DVs R [x] [v] := DVs_one h

/-- Whatever reads as plain data can be laid out. -/
theorem lay (hgl : ∀ i cs, (i, cs) ∈ gl → i < P.globals.size) {base : Nat} {spare : Nat → Bool} {held : Bool} : ∀ (f : Nat) (t : TypeId) (m : Nat) (cs : List Value) (x : DataW H × List MemPlace), sup P f t = true → DataW.trod enc P w base spare held m t cs = some x →
    ∀ bs tr, Cons P w gl bs tr → ∃ bs' tr' ls, Cons P w gl (bs ++ bs') (tr ++ tr') ∧ DVs (inR P gl (tr ++ tr')) ls cs ∧ LOk P (inH P gl (bs ++ bs')) f t ls
  | 0, t, m, cs, x, hs, h, bs, tr, hc => by simp [sup] at hs
  | f + 1, t, m, cs, x, hs, h, bs, tr, hc => by
    unfold sup at hs
    unfold LOk
    split at hs
    · rename_i ht
      obtain ⟨b, rfl, _⟩ := DataW.trod_bool ht h
      exact ⟨[], [], [.bool b], by simpa using hc, DVs_one (by simp [DV]), by first | exact ⟨b, rfl⟩ | (simp only [ht]; exact ⟨b, rfl⟩)⟩
    · rename_i k ht
      obtain ⟨n, rfl, _, hw⟩ := DataW.trod_int ht h
      exact ⟨[], [], [.int k n], by simpa using hc, DVs_one (by simp [DV]), by first | exact ⟨n, rfl, hw⟩ | (simp only [ht]; exact ⟨n, rfl, hw⟩)⟩
    · rename_i ht
      obtain ⟨s, rfl, _, hw⟩ := DataW.trod_string ht h
      exact ⟨[], [], [.str s.data.toList], by simpa using hc, DVs_one (by simp [DV]), by first | exact ⟨_, rfl, by simpa using hw⟩ | (simp only [ht]; exact ⟨_, rfl, by simpa using hw⟩)⟩
    · rename_i e ht
      simp only [Bool.and_eq_true, decide_eq_true_eq] at hs
      obtain ⟨hz, hs⟩ := hs
      rcases DataW.trod_slice ht h with ⟨rfl, _⟩ | ⟨a, len, cap, elems, rest, m', rfl, rfl, _, _, hlc, hcm, hel, hget, _, _⟩
      · exact ⟨[], [], [.slice none 0 (.ex 0)], by simpa using hc, DVs_one (by simp [DV]), by simp only [ht]; exact .inl trivial⟩
      · by_cases h0 : len = 0
        · subst h0
          exact ⟨[], [], [.emp], by simpa using hc, DVs_one (by simp [DV]), by simp only [ht]; exact .inr (.inl trivial)⟩
        · have hlen : 0 < len := by omega
          have hel' : ∀ i, i < len → ∃ c y, w.cells? base (a.add (i * P.cellsOf e)) (P.cellsOf e) = some c ∧ DataW.trod enc P w base spare held m' e c = some y := fun i hi => by
            have h1 := hget i hi
            rw [List.getElem?_eq_getElem (by omega)] at h1
            obtain ⟨c, h2, h3⟩ := Option.bind_eq_some_iff.1 h1
            exact ⟨c, _, h2, h3⟩
          obtain ⟨c0, y0, hc0, _⟩ := hel' 0 hlen
          have ea : a.add (0 * P.cellsOf e) = a := by simp [Addr.add]
          rw [ea] at hc0
          obtain ⟨arr, el, fr, hb, _, hsz0, hsp⟩ := cells_of hz hc0
          have hcell : ∀ i, i < len → ∃ y, DataW.trod enc P w base spare held m' e ((arr.toList.drop (a.off + i * P.cellsOf e)).take (P.cellsOf e)) = some y ∧ a.off + i * P.cellsOf e + P.cellsOf e ≤ arr.size := fun i hi => by
            obtain ⟨c, y, h1, h2⟩ := hel' i hi
            obtain ⟨arr', el', fr', hb', hx', hsz', _⟩ := cells_of hz h1
            have e1 : (a.add (i * P.cellsOf e)).block = a.block ∧ (a.add (i * P.cellsOf e)).off = a.off + i * P.cellsOf e := by
              unfold Addr.add
              split
              · rename_i h; rw [h]; exact ⟨rfl, rfl⟩
              · exact ⟨rfl, rfl⟩
            rw [e1.1, hb] at hb'
            cases hb'
            rw [e1.2] at hx' hsz'
            exact ⟨y, by rw [← hx']; exact h2, hsz'⟩
          obtain ⟨bs1, tr1, lss, g1, g2⟩ := lay_list (P := P) (w := w) hgl (fun _ : Nat => f) (fun _ => e) (fun i => (arr.toList.drop (a.off + i * P.cellsOf e)).take (P.cellsOf e)) (List.range len) (fun i hi bs tr hc => by
            obtain ⟨y, hy, _⟩ := hcell i (by simpa using hi)
            exact lay hgl f e m' _ y hs hy bs tr hc) bs tr hc
          have hend : a.off + len * P.cellsOf e ≤ arr.size := by
            obtain ⟨_, _, h1⟩ := hcell (len - 1) (by omega)
            have : len = (len - 1) + 1 := by omega
            rw [this, Nat.add_mul]
            omega
          have g3 := g2.flat
          have hfl : ((List.range len).flatMap fun i => (arr.toList.drop (a.off + i * P.cellsOf e)).take (P.cellsOf e)) = (arr.toList.drop a.off).take (len * P.cellsOf e) := by
            have := range_flat ((arr.toList.drop a.off).take (len * P.cellsOf e)) (P.cellsOf e) len 0 (by simp; omega)
            simp only [Nat.zero_add, List.drop_zero] at this
            rw [← this]
            simp only [List.flatMap]
            congr 1
            refine List.map_congr_left fun i hi => ?_
            have hi : i < len := by simpa using hi
            rw [List.drop_take, List.take_take, List.drop_drop]
            congr 1
            have : i * P.cellsOf e + P.cellsOf e ≤ len * P.cellsOf e := by
              rw [← Nat.succ_mul]; exact Nat.mul_le_mul_right _ hi
            omega
          rw [hfl] at g3
          have hfl2 : lss.flatten.length = len * P.cellsOf e := by
            have := DVs_length g3
            rw [List.length_take, List.length_drop, Array.length_toList] at this
            omega
          have g4 := Cons.snoc (cs := lss.flatten) (b := a.block) (d := a.off) g1 hb (by rw [hfl2]; exact hend) (by rw [hfl2]; exact g3)
          have hk : (bs ++ bs1).length = (tr ++ tr1).length := g1.len.symm
          refine ⟨bs1 ++ [some (lss.flatten, 0)], tr1 ++ [(a.block, a.off, a.off + lss.flatten.length)], [.slice (some (P.globals.size + (bs ++ bs1).length, 0)) len (.ex cap)], by simpa using g4, DVs_one ?_, ?_⟩
          · simp only [DV]
            refine ⟨a.block, a.off, a.off + lss.flatten.length, ?_, ?_⟩
            · rw [inR_at, hk, ← List.append_assoc, List.getElem?_append_right (Nat.le_refl _)]
              simp
            · obtain ⟨ab, ao, as_⟩ := a
              simp only at hsp
              subst hsp
              simp
          · try simp only [ht]
            refine .inr (.inr ⟨_, len, cap, lss.flatten, 0, lss, rfl, hlen, hlc, hcm, by omega, ?_, ?_, rfl, by rw [g2.len]; simp, ?_⟩)
            · rw [← List.append_assoc, inH_next]; simp
            · rw [← List.append_assoc]
              refine inH_some hgl ?_
              rw [List.getElem?_append_right (Nat.le_refl _)]
              simp
            · obtain ⟨m1, m2⟩ := inH_mono (P := P) hgl (bs ++ bs1) [some (lss.flatten, 0)]
              refine g2.allm fun i l hi hil => ⟨?_, ?_⟩
              · have h5 := (hcell i (by simpa using hi)).choose_spec.2
                have := DVs_length hil.1
                simp at this
                omega
              · rw [← List.append_assoc]; exact LOk.mono m1 m2 _ _ _ hil.2
    · rename_i fs ht
      simp only [Bool.and_eq_true] at hs
      obtain ⟨hs, hcg⟩ := hs
      obtain ⟨xs, m', rfl, _, hcl, hxl, hf⟩ := DataW.trod_struct ht h
      obtain ⟨bs1, tr1, lss, g1, g2⟩ := lay_list (P := P) (w := w) hgl (fun _ : Field => f) (fun fd => fd.type) (fun fd => (cs.drop fd.offset).take (P.cellsOf fd.type)) fs.toList (fun fd hfd bs tr hc => by
        obtain ⟨i, hi⟩ := List.getElem?_of_mem hfd
        have h1 := hf i fd (by rw [← Array.getElem?_toList]; exact hi)
        have hi2 := (List.getElem?_eq_some_iff.1 hi).1
        rw [List.getElem?_eq_getElem (by simpa [hxl] using hi2)] at h1
        exact lay hgl f fd.type m' _ _ (by rw [List.all_eq_true] at hs; exact hs fd hfd) h1 bs tr hc) bs tr hc
      have g3 := g2.flat
      rw [contig_flat cs fs.toList 0 (by rw [hcl]; exact hcg), List.drop_zero] at g3
      refine ⟨bs1, tr1, lss.flatten, g1, g3, ?_⟩
      try simp only [ht]
      have hle := (contig_le (P := P) cs fs.toList 0 (by rw [hcl]; exact hcg)).2
      refine ⟨lss, rfl, by rw [← hcl, ← DVs_length g3], ?_⟩
      have key : ∀ (l : List Field) (lss : List (List LV)), (∀ fd ∈ l, fd.offset + P.cellsOf fd.type ≤ cs.length) → All2 (fun (fd : Field) ls => DVs (inR P gl (tr ++ tr1)) ls ((cs.drop fd.offset).take (P.cellsOf fd.type)) ∧ LOk P (inH P gl (bs ++ bs1)) f fd.type ls) l lss →
          All2 (fun (fd : Field) l => l.length = P.cellsOf fd.type ∧ LOk P (inH P gl (bs ++ bs1)) f fd.type l) l lss := by
        intro l
        induction l with
        | nil => intro lss _ h; cases lss with
          | nil => trivial
          | cons => exact h.elim
        | cons fd l ih => intro lss hl h; cases lss with
          | nil => exact h.elim
          | cons x lss =>
            refine ⟨⟨?_, h.1.2⟩, ih _ (fun g hg => hl g (List.mem_cons_of_mem _ hg)) h.2⟩
            have := DVs_length h.1.1
            have h5 := hl fd List.mem_cons_self
            simp at this
            omega
      exact key _ _ hle g2
    · rename_i n e ht
      simp only [Bool.and_eq_true, beq_iff_eq] at hs
      obtain ⟨hs, hcn⟩ := hs
      obtain ⟨xs, m', rfl, _, hcl, hxl, hf⟩ := DataW.trod_array ht h
      obtain ⟨bs1, tr1, lss, g1, g2⟩ := lay_list (P := P) (w := w) hgl (fun _ : Nat => f) (fun _ => e) (fun i => (cs.drop (i * P.cellsOf e)).take (P.cellsOf e)) (List.range n) (fun i hi bs tr hc => by
        have hi : i < n := by simpa using hi
        have h1 := hf i hi
        rw [List.getElem?_eq_getElem (by omega)] at h1
        exact lay hgl f e m' _ _ hs h1 bs tr hc) bs tr hc
      have g3 := g2.flat
      have hfl := range_flat cs (P.cellsOf e) n 0 (by omega)
      simp only [Nat.zero_add, List.drop_zero] at hfl
      rw [hfl] at g3
      refine ⟨bs1, tr1, lss.flatten, g1, g3, ?_⟩
      try simp only [ht]
      refine ⟨lss, rfl, by rw [g2.len]; simp, g2.allm fun i l hi hil => ⟨?_, hil.2⟩⟩
      have := DVs_length hil.1
      have hi : i < n := by simpa using hi
      have : i * P.cellsOf e + P.cellsOf e ≤ n * P.cellsOf e := by
        rw [← Nat.succ_mul]; exact Nat.mul_le_mul_right _ hi
      simp at *
      omega
    · cases hs

/-- An argument: its type's cells as one value. -/
def LArg (P : Program) (Hp : LH) (f : Nat) (t : TypeId) (x : LV) : Prop :=
  match P.underlying t with
  | some (.struct _) | some (.array _ _) => ∃ ls, x = .agg ls ∧ LOk P Hp f t ls
  | _ => LOk P Hp f t [x]
def LArgs (P : Program) (Hp : LH) (f : Nat) : List TypeId → List LV → Prop
  | [], [] => True
  | t :: ts, x :: xs => LArg P Hp f t x ∧ LArgs P Hp f ts xs
  | _, _ => False
theorem LArg.mono {Hp Hp' : LH} (hn : Hp.next ≤ Hp'.next) (hg : ∀ i o, P.globals.size ≤ i → Hp.get i = some o → Hp'.get i = some o) {f : Nat} {t : TypeId} {x : LV} (h : LArg P Hp f t x) : LArg P Hp' f t x := by
  unfold LArg at h ⊢
  split at h
  · obtain ⟨ls, h1, h2⟩ := h; exact ⟨ls, h1, h2.mono hn hg⟩
  · obtain ⟨ls, h1, h2⟩ := h; exact ⟨ls, h1, h2.mono hn hg⟩
  · exact LOk.mono hn hg _ _ _ h

theorem LOk.one {Hp : LH} {f : Nat} {t : TypeId} {ls : List LV} (h1 : ∀ fs, P.underlying t ≠ some (.struct fs)) (h2 : ∀ n e, P.underlying t ≠ some (.array n e)) (h : LOk P Hp f t ls) : ∃ x, ls = [x] := by
  cases f with
  | zero => exact h.elim
  | succ f =>
    unfold LOk at h
    split at h
    · obtain ⟨b, rfl⟩ := h; exact ⟨_, rfl⟩
    · obtain ⟨b, rfl, _⟩ := h; exact ⟨_, rfl⟩
    · obtain ⟨b, rfl, _⟩ := h; exact ⟨_, rfl⟩
    · rcases h with rfl | rfl | ⟨_, _, _, _, _, _, rfl, _⟩ <;> exact ⟨_, rfl⟩
    · rename_i fs ht; exact (h1 fs ht).elim
    · rename_i n e ht; exact (h2 n e ht).elim
    · exact h.elim

theorem cell_single {r : Reach} {base : Nat} {t : TypeId} {v : Value} {f : Nat} (hs : sup P f t = true) (h1 : ∀ fs, P.underlying t ≠ some (.struct fs)) (h2 : ∀ n e, P.underlying t ≠ some (.array n e)) (hv : Value.okWide P w r base t v) : v.cells = #[v] := by
  cases f with
  | zero => simp [sup] at hs
  | succ f =>
    unfold sup at hs
    split at hs
    · rename_i ht
      simp only [Value.okWide, ht, Cell.okWide] at hv
      cases v <;> simp [Cell.ok, ht] at hv <;> rfl
    · rename_i k ht
      simp only [Value.okWide, ht, Cell.okWide] at hv
      cases v <;> simp [Cell.ok, ht] at hv <;> rfl
    · rename_i ht
      simp only [Value.okWide, ht, Cell.okWide] at hv
      cases v <;> simp [Cell.ok, ht] at hv <;> rfl
    · rename_i e ht
      simp only [Value.okWide, ht, Cell.okWide] at hv
      cases v <;> simp [Cell.ok, ht] at hv <;> rfl
    · rename_i fs ht; exact (h1 fs ht).elim
    · rename_i n e ht; exact (h2 n e ht).elim
    · cases hs

theorem lay_arg (hgl : ∀ i cs, (i, cs) ∈ gl → i < P.globals.size) {base : Nat} {spare : Nat → Bool} {held : Bool} {r : Reach} {base' f m : Nat} {t : TypeId} {v : Value} {x : DataW H × List MemPlace} (hs : sup P f t = true) (hv : Value.okWide P w r base' t v)
    (h : DataW.trod enc P w base spare held m t v.cells.toList = some x) {bs : List (Option (List LV × Nat))} {tr : List (Nat × Nat × Nat)} (hc : Cons P w gl bs tr) :
    ∃ bs' tr' y, Cons P w gl (bs ++ bs') (tr ++ tr') ∧ DV (inR P gl (tr ++ tr')) y v ∧ LArg P (inH P gl (bs ++ bs')) f t y := by
  obtain ⟨bs', tr', ls, h1, h2, h3⟩ := lay (P := P) hgl f t m _ x hs h bs tr hc
  by_cases ha : ∃ fs, P.underlying t = some (.struct fs)
  · obtain ⟨fs, ha⟩ := ha
    simp only [Value.okWide, ha] at hv
    obtain ⟨cs, rfl, _⟩ := hv
    exact ⟨bs', tr', .agg ls, h1, by simp only [DV]; exact ⟨cs, rfl, h2⟩, by simp only [LArg, ha]; exact ⟨ls, rfl, h3⟩⟩
  · by_cases hb : ∃ n e, P.underlying t = some (.array n e)
    · obtain ⟨n, e, hb⟩ := hb
      simp only [Value.okWide, hb] at hv
      obtain ⟨cs, rfl, _⟩ := hv
      exact ⟨bs', tr', .agg ls, h1, by simp only [DV]; exact ⟨cs, rfl, h2⟩, by simp only [LArg, hb]; exact ⟨ls, rfl, h3⟩⟩
    · have ha' : ∀ fs, P.underlying t ≠ some (.struct fs) := fun fs hh => ha ⟨fs, hh⟩
      have hb' : ∀ n e, P.underlying t ≠ some (.array n e) := fun n e hh => hb ⟨n, e, hh⟩
      have hcs := cell_single hs ha' hb' hv
      obtain ⟨y, rfl⟩ := h3.one ha' hb'
      rw [hcs] at h2
      refine ⟨bs', tr', y, h1, ?_, ?_⟩
      · simp only [DVs] at h2
        obtain ⟨v', vs, e1, e2, _⟩ := h2
        simp at e1
        rw [e1.1]; exact e2
      · unfold LArg
        split
        · rename_i fs hh; exact (ha' _ hh).elim
        · rename_i n e hh; exact (hb' _ _ hh).elim
        · exact h3

theorem lay_args (hgl : ∀ i cs, (i, cs) ∈ gl → i < P.globals.size) {base : Nat} {spare : Nat → Bool} {held : Bool} {r : Reach} {base' f : Nat} : ∀ {ts : List TypeId} {vs : List Value} {ds : List (DataW H)} {ps : List MemPlace}, (ts.all (sup P f)) = true →
    (∀ (j : Nat) t v, ts[j]? = some t → vs[j]? = some v → Value.okWide P w r base' t v) → DataW.TrodAll enc P w base spare held ts vs ds ps → ∀ bs tr, Cons P w gl bs tr →
    ∃ bs' tr' ys, Cons P w gl (bs ++ bs') (tr ++ tr') ∧ DVs (inR P gl (tr ++ tr')) ys vs ∧ LArgs P (inH P gl (bs ++ bs')) f ts ys
  | [], vs, ds, ps, _, _, h, bs, tr, hc => by
    obtain ⟨rfl, rfl, rfl⟩ := trodAll_nil h
    exact ⟨[], [], [], by simpa using hc, by simp [DVs], trivial⟩
  | t :: ts, vs, ds, ps, hs, hv, h, bs, tr, hc => by
    obtain ⟨v, vs', d, ds', p, q, rfl, rfl, rfl, ⟨m, h1⟩, h2⟩ := trodAll_cons h
    simp only [List.all_cons, Bool.and_eq_true] at hs
    obtain ⟨bs1, tr1, y, g1, g2, g3⟩ := lay_arg (P := P) hgl hs.1 (hv 0 t v rfl rfl) h1 hc
    obtain ⟨bs2, tr2, ys, g4, g5, g6⟩ := lay_args hgl hs.2 (fun j t v h3 h4 => hv (j + 1) t v (by simpa using h3) (by simpa using h4)) h2 _ _ g1
    refine ⟨bs1 ++ bs2, tr1 ++ tr2, y :: ys, by simpa using g4, ?_, ?_, by simpa using g6⟩
    · simp only [DVs]
      exact ⟨v, vs', rfl, by rw [← List.append_assoc]; exact DV_mono (inR_mono _ _) _ _ g2, by simpa using g5⟩
    · obtain ⟨m1, m2⟩ := inH_mono (P := P) hgl (bs ++ bs1) bs2
      rw [← List.append_assoc]
      exact g3.mono m1 m2

/-! ### the top, with known calls -/
theorem lawK_in {kn : List KnF} (hP : progOk P = true) (hK : KnOk P kn) {n f : Nat} {args : List LV} (gl : List (Nat × List LV)) (bs : List (Option (List LV × Nat))) (hrun : okB (runK P kn n (.call f args (inH P gl bs))) = true) {w : World} {av : Array Value}
    (hgl : (gl.all fun p => decide (p.1 < P.globals.size)) = true) (tr : List (Nat × Nat × Nat)) (hc : Cons P w gl bs tr) (ha : DVs (inR P gl tr) args av.toList)
    (hglob : ∀ i cs, (i, cs) ∈ gl → DO (inR P gl tr) w.heap[i]? 0 cs.length (.cells cs 0 false false)) :
    Calls P f av w fun e w' => e = .returned (.bool true) ∧ Below w.heap.size w w' := by
  obtain ⟨h', hr⟩ := okB_spec hrun
  have glt : ∀ {i cs}, gl.find? (fun p => p.1 == i) = some (i, cs) → i < P.globals.size ∧ inR P gl tr i = some (i, 0, cs.length) := fun {i cs} h => by
    have h1 := List.mem_of_find?_eq_some h
    rw [List.all_eq_true] at hgl
    have h2 := of_decide_eq_true (hgl _ h1)
    exact ⟨h2, by unfold inR; rw [if_pos h2]; simp only [glExt, h]⟩
  have hden : Den (inR P gl tr) (inH P gl bs) w := by
    refine ⟨fun i o hi => ?_, fun i j oi oj b d e b' d' e' hi hj hne hri hrj ho => ?_⟩
    · rcases inH_get gl bs i o hi with ⟨k, cs, el, rfl, h2, rfl⟩ | ⟨cs, h1, rfl⟩
      · have hk : k < tr.length := by rw [hc.len]; exact (List.getElem?_eq_some_iff.1 h2).1
        obtain ⟨⟨b, d, e⟩, h3⟩ : ∃ x, tr[k]? = some x := ⟨tr[k], List.getElem?_eq_getElem hk⟩
        exact ⟨b, d, e, by rw [inR_at, h3], hc.ok k cs el b d e h2 h3⟩
      · exact ⟨i, 0, cs.length, (glt h1).2, hglob i cs (List.mem_of_find?_eq_some h1)⟩
    · rcases inH_get gl bs i oi hi with ⟨k, cs, el, rfl, h2, rfl⟩ | ⟨cs, h1, rfl⟩ <;> cases ho
  have hloops : LoopsOk P (inH P gl bs) := fun i o hi => by
    rcases inH_get gl bs i o hi with ⟨k, cs, el, rfl, h2, rfl⟩ | ⟨cs, h1, rfl⟩ <;> rfl
  have hfr : ∀ i, (inH P gl bs).next ≤ i → inR P gl tr i = none := fun i hi => by
    have h1 : P.globals.size + bs.length ≤ i := hi
    unfold inR
    rw [if_neg (by omega), List.getElem?_eq_none (by rw [hc.len]; omega)]
  refine (callK_sound hP hK hr ha hden (inR_glob gl tr) hloops (fun i h1 _ => hfr i h1)).mono fun e w' hpost => ?_
  obtain ⟨R', hgo, _, _, he⟩ := hpost
  refine ⟨?_, hgo.os, hgo.tape, hgo.output, hgo.size, fun k hk => hgo.keep k hk ?_⟩
  · cases e with
    | returned x => simp only [EndR, DV] at he; rw [he]
    | panicked ch => exact he.elim
    | outgrown => exact he.elim
  · rintro ⟨i, o, d, e', h1, h2, _⟩
    have : o.owns = false := by
      rcases inH_get gl bs i o h1 with ⟨k, cs, el, rfl, _, rfl⟩ | ⟨cs, _, rfl⟩ <;> rfl
    rw [this] at h2; cases h2

def plainV : LV → Bool
  | .int _ _ | .bool _ | .str _ => true
  | _ => false
theorem DV_plain {R R' : Ren} {x : LV} {v : Value} (h : plainV x = true) (hd : DV R x v) : DV R' x v := by
  cases x <;> first | (simp [plainV] at h; done) | simpa [DV] using hd
/-- A closed run of a function without arguments makes it a known call. -/
theorem KnOk.of_run (hP : progOk P = true) {n f : Nat} {gl : List (Nat × List LV)} (hgl : (gl.all fun p => decide (p.1 < P.globals.size)) = true) (hpl : (gl.all fun p => p.2.all plainV) = true) (hrun : okB (run P n (.call f [] (inH P gl []))) = true) : KnOk P [⟨f, .bool true, gl⟩] := by
  intro x hx R w hcells
  simp only [List.mem_singleton] at hx
  subst hx
  refine (law_in hP gl [] hrun (av := #[]) hgl [] rfl (by simp [DVs]) (fun k cs el b d e h => by simp at h) ?_).mono fun e w' h => ⟨⟨_, h.1, by simp [DV]⟩, h.2⟩
  intro i cs hi
  obtain ⟨arr, el, fr, h1, h2, h3, h4, h5⟩ := hcells i cs hi
  refine ⟨arr, el, fr, h1, h2, h3, fun k x hx => ?_, fun hh => by cases hh⟩
  obtain ⟨v, hv, hd⟩ := h4 k x hx
  rw [List.all_eq_true] at hpl
  have h6 := hpl _ hi
  simp only at h6
  rw [List.all_eq_true] at h6
  exact ⟨v, hv, DV_plain (h6 x (List.mem_of_getElem? hx)) hd⟩
end
end Go.Lv
