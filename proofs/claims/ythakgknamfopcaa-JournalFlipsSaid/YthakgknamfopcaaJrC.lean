/- Walks of the codec: commands are read. -/
import Derived.Test.YthakgknamfopcaaJrB
namespace Go.Proofs.Ythakgknamfopcaa
open Go Go.Lv
set_option linter.unusedVariables false
set_option maxRecDepth 100000

/-- What ends the reading of bytes that have not the form. -/
def invP : LV := .iface 99 (.agg [])
/-- The next number. -/
def rdU (bs : List UInt8) : Option (Nat × List UInt8) := (getU bs).map fun p => (p.1, bs.drop p.2)
theorem rdU_spec {bs r : List UInt8} {x : Nat} (h : rdU bs = some (x, r)) : x < 2 ^ 64 ∧ r.length < bs.length := by
  unfold rdU at h
  cases hg : getU bs with
  | none => rw [hg] at h; cases h
  | some p =>
    rw [hg] at h
    obtain ⟨y, n⟩ := p
    have := getU_spec hg
    cases h
    exact ⟨this.1, by simp; omega⟩
/-- The reader there has these bytes left. -/
def RBk (H : LH) (rb : Nat) (v : LV) (bs : List UInt8) : Prop := rb < H.next ∧ H.get rb = some (.cells [v] 102 true false) ∧ BV H v bs ∧ ∀ i, v.bid? = some i → i ≠ rb
theorem RBk.ext {H H' : LH} {rb : Nat} {v : LV} {bs : List UInt8} (h : RBk H rb v bs) {W : Nat → Prop} (hE : Ext H H' W) (h1 : ¬ W rb) (h2 : ∀ i, v.bid? = some i → ¬ W i) : RBk H' rb v bs :=
  ⟨Nat.lt_of_lt_of_le h.1 hE.next, hE.get h.1 h1 h.2.1, h.2.2.1.ext hE h2, h.2.2.2⟩
theorem RBk.new {H : LH} {rb : Nat} {v : LV} {bs : List UInt8} (h : RBk H rb v bs) (o : LO) : RBk (H.new o) rb v bs := h.ext (W := none') ((Ext.refl H _).new o) (fun h => h) (fun _ _ h => h)
theorem RBk.put {H : LH} {rb : Nat} {v : LV} {bs : List UInt8} (h : RBk H rb v bs) {j : Nat} (o : LO) (h1 : rb ≠ j) (h2 : ∀ i, v.bid? = some i → i ≠ j) : RBk (H.put j o) rb v bs := h.ext (W := fun i => i = j) ((Ext.refl H _).put o (fun _ => rfl)) h1 h2
theorem RBk.next {H : LH} {rb : Nat} {v v' : LV} {bs bs' : List UInt8} (h : RBk H rb v bs) (hb : BV H v' bs') (hv : ∀ i, v'.bid? = some i → v.bid? = some i) : RBk (H.put rb (.cells [v'] 102 true false)) rb v' bs' :=
  ⟨h.1, get_put_self, hb.ext (W := fun i => i = rb) ((Ext.refl H _).put _ (fun _ => rfl)) (fun i hi => h.2.2.2 i (hv i hi)), fun i hi => h.2.2.2 i (hv i hi)⟩

section
variable {H : LH} {rb : Nat} {v : LV} {bs : List UInt8}
set_option maxHeartbeats 4000000 in
theorem rd_next (h : RBk H rb v bs) : CallP Try.prog 48 [.ptr (some (rb, 0))] H (fun o H' => (∃ x r v', rdU bs = some (x, r) ∧ o = .ret (.int .u64 x) ∧ H' = H.put rb (.cells [v'] 102 true false) ∧ RBk H' rb v' r ∧ ∀ i, v'.bid? = some i → v.bid? = some i) ∨ (rdU bs = none ∧ o = .panic invP ∧ H' = H)) := by
  refine en48 (by simp) ?_
  unfold c48
  have h1 := h.2.1
  cases hg : getU bs with
  | none =>
    have hr : rdU bs = none := by unfold rdU; rw [hg]; rfl
    have hcall := getUint H v bs h.2.2.1
    rw [hg] at hcall
    refine WP.seq ?_
    refine WP.region rfl ?_
    refine WS.val rfl (LK.assign rfl) ?_
    refine WS.nil ?_
    refine WP.seq ?_
    refine WP.region rfl ?_
    refine WS.val rfl (LK.move rfl) ?_
    refine WS.val rfl (LK.nilCheck_ptr rfl) ?_
    refine WS.val rfl (LK.fieldAddr rfl rfl) ?_
    refine WS.val rfl (LK.load rfl h1 rfl) ?_
    (refine WS.call rfl (LK.call rfl) (CallP.mono (hcall) ?_); rintro _ Hc ⟨rfl, rfl⟩)
    refine WS.val rfl (LK.move rfl) ?_
    refine WS.val rfl (LK.extract rfl rfl) ?_
    refine WS.val rfl (LK.extract rfl rfl) ?_
    refine WS.val rfl (LK.extract rfl rfl) ?_
    refine WS.val rfl (LK.assign rfl) ?_
    refine WS.val rfl (LK.assign rfl) ?_
    refine WS.val rfl (LK.assign rfl) ?_
    refine WS.nil ?_
    refine WP.sub (gs := [(5, _), (4, _), (3, _), (2, _), (0, _)]) ?_ ⟨rfl, rfl, rfl, rfl, rfl, trivial⟩
    refine WP.seq ?_
    refine WP.seq ?_
    refine WP.region rfl ?_
    refine WS.val rfl (LK.move rfl) ?_
    refine WS.val rfl (LK.neq rfl rfl) ?_
    refine WS.nil ?_
    refine WP.sub (gs := [(16, _), (4, _), (3, _), (2, _), (0, _)]) ?_ ⟨rfl, rfl, rfl, rfl, rfl, trivial⟩
    refine WP.cond rfl (fun h16 => ?_) (fun h16 => ?_)
    rotate_left
    · cases h16
    refine WP.region rfl ?_
    refine WS.val rfl (LK.build_s rfl rfl) ?_
    refine WS.val rfl (LK.makeInterface rfl) ?_
    refine WS.panic rfl (LK.panic rfl) ?_
    exact Fin.panic rfl (.inr ⟨hr, rfl, rfl⟩)
  | some p =>
    obtain ⟨x, n⟩ := p
    have hs := getU_spec hg
    have hr : rdU bs = some (x, bs.drop n) := by unfold rdU; rw [hg]; rfl
    have hcall := getUint H v bs h.2.2.1
    rw [hg] at hcall
    obtain ⟨v', hsl, hb', hv'⟩ := h.2.2.1.slice (t := 22) (lo := some (.int .i64 (n : Int))) (hi := none) (l := n) (r := bs.length) (natOf_cast (k := .i64)) rfl hs.2.2 (Nat.le_refl _)
    have hb2 : BV H v' (bs.drop n) := by
      have e : (bs.drop n).take (bs.length - n) = bs.drop n := List.take_of_length_le (by simp)
      rw [e] at hb'; exact hb'
    refine WP.seq ?_
    refine WP.region rfl ?_
    refine WS.val rfl (LK.assign rfl) ?_
    refine WS.nil ?_
    refine WP.seq ?_
    refine WP.region rfl ?_
    refine WS.val rfl (LK.move rfl) ?_
    refine WS.val rfl (LK.nilCheck_ptr rfl) ?_
    refine WS.val rfl (LK.fieldAddr rfl rfl) ?_
    refine WS.val rfl (LK.load rfl h1 rfl) ?_
    (refine WS.call rfl (LK.call rfl) (CallP.mono (hcall) ?_); rintro _ Hc ⟨rfl, rfl⟩)
    refine WS.val rfl (LK.move rfl) ?_
    refine WS.val rfl (LK.extract rfl rfl) ?_
    refine WS.val rfl (LK.extract rfl rfl) ?_
    refine WS.val rfl (LK.extract rfl rfl) ?_
    refine WS.val rfl (LK.assign rfl) ?_
    refine WS.val rfl (LK.assign rfl) ?_
    refine WS.val rfl (LK.assign rfl) ?_
    refine WS.nil ?_
    refine WP.sub (gs := [(5, _), (4, _), (3, _), (2, _), (0, _)]) ?_ ⟨rfl, rfl, rfl, rfl, rfl, trivial⟩
    refine WP.seq ?_
    refine WP.seq ?_
    refine WP.region rfl ?_
    refine WS.val rfl (LK.move rfl) ?_
    refine WS.val rfl (LK.neq rfl rfl) ?_
    refine WS.nil ?_
    refine WP.sub (gs := [(16, _), (4, _), (3, _), (2, _), (0, _)]) ?_ ⟨rfl, rfl, rfl, rfl, rfl, trivial⟩
    refine WP.cond rfl (fun h16 => ?_) (fun h16 => ?_)
    · cases h16
    refine WP.skip ?_
    refine WP.seq ?_
    refine WP.region rfl ?_
    refine WS.val rfl (LK.move rfl) ?_
    refine WS.val rfl (LK.move rfl) ?_
    refine WS.val rfl (LK.nilCheck_ptr rfl) ?_
    refine WS.val rfl (LK.fieldAddr rfl rfl) ?_
    refine WS.val rfl (LK.load rfl h1 rfl) ?_
    refine WS.val rfl (LK.move rfl) ?_
    refine WS.val rfl (LK.slice rfl rfl rfl rfl hsl) ?_
    refine WS.val rfl (LK.nilCheck_ptr rfl) ?_
    refine WS.val rfl (LK.fieldAddr rfl rfl) ?_
    refine WS.skip rfl (LK.store1 rfl rfl h1 (SV.cells hb2) (SV.one hb2) (Nat.le_refl 1)) ?_
    refine WS.nil ?_
    refine WP.sub (gs := [(3, _), (2, _)]) ?_ ⟨rfl, rfl, trivial⟩
    refine WP.seq ?_
    refine WP.region rfl ?_
    refine WS.val rfl (LK.move rfl) ?_
    refine WS.val rfl (LK.assign rfl) ?_
    refine WS.nil ?_
    refine WP.sub (gs := [(2, _)]) ?_ ⟨rfl, trivial⟩
    exact WP.ret rfl (Fin.ret' rfl rfl (.inl ⟨x, _, v', hr, rfl, rfl, h.next hb2 hv', hv'⟩))
set_option maxHeartbeats 4000000 in
theorem rd_id {cb off : Nat} {cs : List LV} {e : Nat} {opn : Bool} (h : RBk H rb v bs) (hcb : cb < H.next) (hcr : cb ≠ rb) (hcv : v.bid? ≠ some cb) (hc : H.get cb = some (.cells cs e true opn)) (ho : off < cs.length) :
    CallP Try.prog 83 [.ptr (some (rb, 0)), .ptr (some (cb, off))] H (fun o H' => (∃ x r v', rdU bs = some (x, r) ∧ o = .ret (.tuple []) ∧ H' = (H.put rb (.cells [v'] 102 true false)).put cb (.cells (cs.set off (.int .u64 x)) e true opn) ∧ RBk H' rb v' r ∧ ∀ i, v'.bid? = some i → v.bid? = some i) ∨ (rdU bs = none ∧ o = .panic invP ∧ H' = H)) := by
  refine en83 (by simp) ?_
  unfold c83
  refine WP.region rfl ?_
  refine WS.val rfl (LK.move rfl) ?_
  refine WS.val rfl (LK.move rfl) ?_
  (refine WS.call rfl (LK.call rfl) (CallP.mono (rd_next h) ?_); rintro _ Hc (⟨x, r, v', hr, rfl, rfl, hR, hv'⟩ | ⟨hr, rfl, rfl⟩); rotate_left 1; (focus (exact Fin.panic rfl (.inr ⟨hr, rfl, rfl⟩))))
  refine WS.val rfl (LK.nilCheck_ptr rfl) ?_
  refine WS.skip rfl (LK.store1 rfl rfl ((get_put_other hcr).trans hc) rfl rfl ho) ?_
  refine WS.nil ?_
  refine WP.sub (gs := []) ?_ trivial
  exact WP.nil rfl (Fin.ret' rfl rfl (.inl ⟨x, r, v', hr, rfl, rfl, hR.put _ (Ne.symm hcr) (fun i hi h => hcv (by rw [← h]; exact hv' i hi)), hv'⟩))
set_option maxHeartbeats 4000000 in
theorem rd_num {cb off : Nat} {cs : List LV} {e : Nat} {opn : Bool} (h : RBk H rb v bs) (hcb : cb < H.next) (hcr : cb ≠ rb) (hcv : v.bid? ≠ some cb) (hc : H.get cb = some (.cells cs e true opn)) (ho : off < cs.length) :
    CallP Try.prog 84 [.ptr (some (rb, 0)), .ptr (some (cb, off))] H (fun o H' => (∃ x r v', rdU bs = some (x, r) ∧ o = .ret (.tuple []) ∧ H' = (H.put rb (.cells [v'] 102 true false)).put cb (.cells (cs.set off (.int .i64 (zzI x))) e true opn) ∧ RBk H' rb v' r ∧ ∀ i, v'.bid? = some i → v.bid? = some i) ∨ (rdU bs = none ∧ o = .panic invP ∧ H' = H)) := by
  refine en84 (by simp) ?_
  unfold c84
  refine WP.seq ?_
  refine WP.region rfl ?_
  refine WS.val rfl (LK.move rfl) ?_
  (refine WS.call rfl (LK.call rfl) (CallP.mono (rd_next h) ?_); rintro _ Hc (⟨x, r, v', hr, rfl, rfl, hR, hv'⟩ | ⟨hr, rfl, rfl⟩); rotate_left 1; (focus (exact Fin.panic rfl (.inr ⟨hr, rfl, rfl⟩))))
  refine WS.val rfl (LK.assign rfl) ?_
  refine WS.nil ?_
  refine WP.sub (gs := [(4, _), (1, _)]) ?_ ⟨rfl, rfl, trivial⟩
  refine WP.region rfl ?_
  refine WS.val rfl (LK.move rfl) ?_
  refine WS.val rfl (LK.move rfl) ?_
  refine WS.val rfl (LK.shr rfl rfl (by decide)) ?_
  refine WS.val rfl (LK.conv_int rfl) ?_
  refine WS.val rfl (LK.move rfl) ?_
  refine WS.val rfl (LK.and rfl rfl) ?_
  refine WS.val rfl (LK.conv_int rfl) ?_
  refine WS.val rfl (LK.neg rfl) ?_
  refine WS.val rfl (LK.xor rfl rfl) ?_
  refine WS.val rfl (LK.nilCheck_ptr rfl) ?_
  refine WS.skip rfl (LK.store1 rfl rfl ((get_put_other hcr).trans hc) rfl rfl ho) ?_
  refine WS.nil ?_
  refine WP.sub (gs := []) ?_ trivial
  exact WP.nil rfl (Fin.ret' rfl rfl (.inl ⟨x, r, v', hr, rfl, by rw [← unzz_go (rdU_spec hr).1], hR.put _ (Ne.symm hcr) (fun i hi h => hcv (by rw [← h]; exact hv' i hi)), hv'⟩))
/-- How many elements a list has. -/
def rdC (most : Nat) (bs : List UInt8) : Option (Nat × List UInt8) := (rdU bs).bind fun p => if most < p.1 ∨ p.2.length < p.1 then none else some p
set_option maxHeartbeats 4000000 in
theorem rd_count {most : Nat} (hm : most < 2 ^ 62) (h : RBk H rb v bs) (hbl : bs.length < 2 ^ 62) : CallP Try.prog 86 [.ptr (some (rb, 0)), .int .i64 most] H (fun o H' => (∃ x r v', rdC most bs = some (x, r) ∧ o = .ret (.int .i64 x) ∧ H' = H.put rb (.cells [v'] 102 true false) ∧ RBk H' rb v' r ∧ ∀ i, v'.bid? = some i → v.bid? = some i) ∨
    (rdC most bs = none ∧ o = .panic invP ∧ Ext H H' (fun i => i = rb))) := by
  refine en86 (by simp) ?_
  unfold c86
  refine WP.seq ?_
  refine WP.region rfl ?_
  refine WS.val rfl (LK.assign rfl) ?_
  refine WS.nil ?_
  refine WP.seq ?_
  refine WP.region rfl ?_
  refine WS.val rfl (LK.move rfl) ?_
  (refine WS.call rfl (LK.call rfl) (CallP.mono (rd_next h) ?_); rintro _ Hc (⟨x, r, v', hr, rfl, rfl, hR, hv'⟩ | ⟨hr, rfl, rfl⟩); rotate_left 1; (focus (exact Fin.panic rfl (.inr ⟨by unfold rdC; rw [hr]; rfl, rfl, Ext.refl _ _⟩))))
  refine WS.val rfl (LK.assign rfl) ?_
  refine WS.nil ?_
  refine WP.sub (gs := [(5, _), (4, _), (0, _), (1, _)]) ?_ ⟨rfl, rfl, rfl, rfl, trivial⟩
  refine WP.seq ?_
  refine WP.seq ?_
  have hxs := rdU_spec hr
  have hw := hR.2.1
  refine WP.region rfl ?_
  refine WS.val rfl (LK.move rfl) ?_
  refine WS.val rfl (LK.move rfl) ?_
  refine WS.val rfl (LK.conv_to (b := (most : Int)) rfl (wrap_u64 (by omega) (by omega))) ?_
  refine WS.val rfl (LK.gtr rfl rfl) ?_
  refine WS.val rfl (LK.move rfl) ?_
  first | refine WS.val rfl (LK.move rfl) ?_ | refine WS.no rfl ?_ | (refine WS.guard rfl (fun h12 => ?_) (fun h12 => ?_) <;> first | refine WS.val rfl (LK.move rfl) ?_ | refine WS.no rfl ?_)
  all_goals first | refine WS.val rfl (LK.move rfl) ?_ | refine WS.no rfl ?_
  all_goals first | refine WS.val rfl (LK.nilCheck_ptr rfl) ?_ | refine WS.no rfl ?_
  all_goals first | refine WS.val rfl (LK.fieldAddr rfl rfl) ?_ | refine WS.no rfl ?_
  all_goals first | refine WS.val rfl (LK.load rfl hw rfl) ?_ | refine WS.no rfl ?_
  all_goals first | refine WS.val rfl (SV.len hR.2.2.1 rfl) ?_ | refine WS.no rfl ?_
  all_goals first | refine WS.val rfl (LK.conv_to (b := (r.length : Int)) rfl (wrap_u64 (by omega) (by omega))) ?_ | refine WS.no rfl ?_
  all_goals first | refine WS.val rfl (LK.gtr rfl rfl) ?_ | refine WS.no rfl ?_
  all_goals first | refine WS.val rfl (LK.pick_t rfl rfl) ?_ | refine WS.val rfl (LK.pick_f rfl rfl) ?_
  all_goals
   refine WS.nil ?_
   refine WP.sub (gs := [(21, _), (5, _), (4, _)]) ?_ ⟨rfl, rfl, rfl, trivial⟩
   refine WP.cond rfl (fun h21 => ?_) (fun h21 => ?_)
   · skip
     refine WP.region rfl ?_
     refine WS.val rfl (LK.build_s rfl rfl) ?_
     refine WS.val rfl (LK.makeInterface rfl) ?_
     refine WS.panic rfl (LK.panic rfl) ?_
     refine Fin.panic rfl (.inr ⟨?_, rfl, (Ext.refl _ _).put _ (fun _ => rfl)⟩)
     unfold rdC
     rw [hr, Option.bind_some, if_pos]
     simp only [Bool.not_false, decide_eq_true_eq, decide_eq_false_iff_not] at *
     show most < x ∨ r.length < x
     omega
   first
    | ((cases h21); done)
    | skip
      refine WP.skip ?_
      refine WP.seq ?_
      refine WP.region rfl ?_
      refine WS.val rfl (LK.move rfl) ?_
      refine WS.val rfl (LK.conv_int rfl) ?_
      refine WS.val rfl (LK.assign rfl) ?_
      refine WS.nil ?_
      refine WP.sub (gs := [(4, _)]) ?_ ⟨rfl, trivial⟩
      refine WP.ret rfl (Fin.ret' rfl rfl (.inl ⟨x, r, v', ?_, ?_, rfl, hR, hv'⟩))
      · unfold rdC
        rw [hr, Option.bind_some, if_neg]
        simp only [Bool.not_true, Bool.not_false, decide_eq_true_eq, decide_eq_false_iff_not] at *
        show ¬ (most < x ∨ r.length < x)
        omega
      · show LOut.ret (LV.int .i64 _) = _
        simp only [Bool.not_true, Bool.not_false, decide_eq_true_eq, decide_eq_false_iff_not] at *
        rw [wrap_i64 (by omega) (by omega)]
end
/-- So many numbers. -/
def rdUs : Nat → List UInt8 → Option (List Nat × List UInt8)
  | 0, bs => some ([], bs)
  | n + 1, bs => (rdU bs).bind fun p => (rdUs n p.2).map fun q => (p.1 :: q.1, q.2)
theorem rdUs_len : ∀ {n : Nat} {bs r : List UInt8} {l : List Nat}, rdUs n bs = some (l, r) → l.length = n ∧ r.length ≤ bs.length ∧ ∀ x ∈ l, x < 2 ^ 64
  | 0, bs, r, l, h => by cases h; exact ⟨rfl, Nat.le_refl _, by simp⟩
  | n + 1, bs, r, l, h => by
    unfold rdUs at h
    cases h1 : rdU bs with
    | none => rw [h1] at h; cases h
    | some p =>
      rw [h1, Option.bind_some] at h
      obtain ⟨x, r1⟩ := p
      have h4 := rdU_spec h1
      cases h2 : rdUs n r1 with
      | none => rw [h2] at h; cases h
      | some q =>
        rw [h2] at h
        obtain ⟨l1, r2⟩ := q
        have h3 := rdUs_len h2
        cases h
        refine ⟨by simp [h3.1], (by show r2.length ≤ _; omega), fun y hy => ?_⟩
        rcases List.mem_cons.1 hy with rfl | hy
        · exact h4.1
        · exact h3.2.2 y hy
/-- What was read and what is still to be read. -/
def rdGo (acc : List Nat) (n : Nat) (bs : List UInt8) : Option (List Nat × List UInt8) := (rdUs n bs).map fun q => (acc ++ q.1, q.2)
theorem rdGo_step {acc : List Nat} {n : Nat} {bs : List UInt8} {x : Nat} {r : List UInt8} (h : rdU bs = some (x, r)) : rdGo acc (n + 1) bs = rdGo (acc ++ [x]) n r := by
  simp only [rdGo, rdUs, h, Option.bind_some, Option.map_map]
  congr 1
  funext q
  simp
theorem OU.append {H : LH} {v x : LV} {ns xs : List Nat} (h : Lv.Own H 1 24 v ns.length (u64L ns)) (hx : SV H 1 x xs.length (u64L xs)) (hl : ns.length + xs.length ≤ 1000000000000) :
    ∃ v' H', builtinL Try.prog H .append [25, 25] [v, x] = some (.val v' H') ∧ Lv.Own H' 1 24 v' (ns ++ xs).length (u64L (ns ++ xs)) ∧ Ext H H' (fun i => v.bid? = some i) ∧ (∀ i, v'.bid? = some i → v.bid? = some i ∨ H.next ≤ i) := by
  obtain ⟨v', H', g1, g2, g3⟩ := Lv.Own.append (P := Try.prog) (t := 25) (t' := 25) (sz := 1) (by omega) (by omega) rfl h hx (by simp [u64L, oneCell]) (by unfold growMax; omega)
  refine ⟨v', H', g1, ?_, g3⟩
  rw [show u64L (ns ++ xs) = u64L ns ++ u64L xs by simp [u64L], List.length_append]; exact g2
theorem OI.append {H : LH} {v x : LV} {ns xs : List Int} (h : Lv.Own H 1 2 v ns.length (i64L ns)) (hx : SV H 1 x xs.length (i64L xs)) (hl : ns.length + xs.length ≤ 1000000000000) :
    ∃ v' H', builtinL Try.prog H .append [26, 26] [v, x] = some (.val v' H') ∧ Lv.Own H' 1 2 v' (ns ++ xs).length (i64L (ns ++ xs)) ∧ Ext H H' (fun i => v.bid? = some i) ∧ (∀ i, v'.bid? = some i → v.bid? = some i ∨ H.next ≤ i) := by
  obtain ⟨v', H', g1, g2, g3⟩ := Lv.Own.append (P := Try.prog) (t := 26) (t' := 26) (sz := 1) (by omega) (by omega) rfl h hx (by simp [i64L, oneCell]) (by unfold growMax; omega)
  refine ⟨v', H', g1, ?_, g3⟩
  rw [show i64L (ns ++ xs) = i64L ns ++ i64L xs by simp [i64L], List.length_append]; exact g2
/-- How it was when some numbers had been read. -/
structure RdIn (H H' : LH) (rb : Nat) (v0 v out : LV) (bs : List UInt8) (el n : Nat) (ls : List LV) : Prop where
  rk : RBk H' rb v bs
  vb : ∀ i, v.bid? = some i → v0.bid? = some i
  ext : Ext H H' (fun i => i = rb)
  ow : Lv.Own H' 1 el out n ls
  far : ∀ i, out.bid? = some i → H.next ≤ i

set_option maxHeartbeats 4000000 in
theorem read_id (H : LH) (rb : Nat) (v : LV) (bs : List UInt8) (n : Nat) (hn : n ≤ 1000000) (h : RBk H rb v bs) (hvn : ∀ i, v.bid? = some i → i < H.next) : CallP Try.prog 87 [.int .i64 n, .func (.func 83) [.ptr (some (rb, 0))] []] H
    (fun o H' => (∃ l r v' out, rdUs n bs = some (l, r) ∧ o = .ret out ∧ RdIn H H' rb v v' out r 24 l.length (u64L l)) ∨ (rdUs n bs = none ∧ o = .panic invP ∧ Ext H H' (fun i => i = rb))) := by
  refine en87 (by simp) ?_
  unfold c87
  refine WP.seq ?_
  refine WP.region rfl ?_
  refine WS.val rfl (LK.assign rfl) ?_
  refine WS.nil ?_
  refine WP.seq ?_
  refine WP.region rfl ?_
  refine WS.val rfl (LK.assign rfl) ?_
  refine WS.nil ?_
  refine WP.seq ?_
  refine WP.seq ?_
  refine WP.region rfl ?_
  refine WS.val rfl (LK.move rfl) ?_
  refine WS.val rfl (LK.move rfl) ?_
  refine WS.nil ?_
  refine WP.sub (gs := [(8, _), (7, _), (5, _), (4, _), (1, _)]) ?_ ⟨rfl, rfl, rfl, rfl, rfl, trivial⟩
  refine WP.block ?_
  refine WP.loop ?_
  skip
  refine WP.sub (gs := [(1, .func (.func 83) [.ptr (some (rb, 0))] []), (5, .slice none 0 (.ex 0)), (7, .int .i64 n), (8, .int .i64 ((0 : Nat) : Int))]) ?_ ⟨rfl, rfl, rfl, rfl, trivial⟩
  refine WP.inv (fun m g H' => ∃ (i : Nat) (v1 out : LV) (bs1 : List UInt8) (acc : List Nat), m = n - i ∧ i ≤ n ∧ acc.length = i ∧ g = [(1, .func (.func 83) [.ptr (some (rb, 0))] []), (5, out), (7, .int .i64 n), (8, .int .i64 (i : Int))] ∧ rdUs n bs = rdGo acc (n - i) bs1 ∧ RdIn H H' rb v v1 out bs1 24 acc.length (u64L acc)) (n := n)
    ⟨0, v, _, bs, [], rfl, Nat.zero_le _, rfl, rfl, by simp [rdGo], ⟨h, fun i hi => hi, Ext.refl _ _, Own.nil _ _ _, fun i hi => by cases hi⟩⟩ ?_
  rintro m g H' ⟨i, v1, out, bs1, acc, rfl, hi, hacc, rfl, hgo, hI⟩ ih
  have hHn := hI.ext.next
  by_cases hlt : i < n
  · have e1 : n - i = (n - (i + 1)) + 1 := by omega
    have hR1 := hI.rk.new (.cells [.int .u64 0] 24 true false)
    have hO1 := hI.ow.new (.cells [.int .u64 0] 24 true false)
    have hne : H'.next ≠ rb := by have := hI.rk.1; omega
    have hcall := rd_id (cb := H'.next) (off := 0) hR1 (by simp) hne (fun hh => by have := hvn _ (hI.vb _ hh); omega) get_new_self (by decide)
    have hrbn : rb < H.next := h.1
    refine WP.seq ?_
    refine WP.region rfl ?_
    refine WS.val rfl (LK.lss rfl rfl) ?_
    refine WS.nil ?_
    refine WP.seq ?_
    refine WP.cond rfl (fun h9 => ?_) (fun h9 => ?_)
    rotate_left
    · exfalso; have := of_decide_eq_false h9; omega
    refine WP.skip ?_
    refine WP.seq ?_
    refine WP.block ?_
    refine WP.seq ?_
    refine WP.region rfl ?_
    refine WS.val rfl (LK.alloc) ?_
    refine WS.nil ?_
    refine WP.seq ?_
    refine WP.region rfl ?_
    refine WS.val rfl (LK.move rfl) ?_
    (refine WS.call rfl (LK.call_func rfl rfl) (CallP.mono (hcall) ?_); rintro _ Hc (⟨x, r, v', hr, rfl, rfl, hR, hv'⟩ | ⟨hr, rfl, rfl⟩); rotate_left 1; (focus (
          refine Fin.panic rfl (.inr ⟨?_, rfl, hI.ext.new _⟩)
          rw [hgo, e1]
          simp only [rdGo, rdUs, hr]
          rfl)))
    refine WS.nil ?_
    refine WP.sub (gs := [(10, _), (6, _), (9, _), (1, _), (5, _), (7, _), (8, _)]) ?_ ⟨rfl, rfl, rfl, rfl, rfl, rfl, rfl, trivial⟩
    have hx1 : (((H'.new (.cells [.int .u64 0] 24 true false)).put rb (.cells [v'] 102 true false)).put H'.next (.cells ([LV.int .u64 0].set 0 (.int .u64 (x : Int))) 24 true false)).get H'.next = some (.cells [.int .u64 x] 24 true false) := get_put_self
    generalize hH2 : ((H'.new (.cells [.int .u64 0] 24 true false)).put rb (.cells [v'] 102 true false)).put H'.next (.cells ([LV.int .u64 0].set 0 (.int .u64 (x : Int))) 24 true false) = H2 at *
    have hn2 : H2.next = H'.next + 1 := by rw [← hH2]; rfl
    have hE2 : Ext H' H2 (fun i => i = rb) := by rw [← hH2]; exact (((Ext.refl H' (fun i => i = rb)).new _).put _ (fun _ => rfl)).put _ (fun h => by omega)
    have hO2 : Lv.Own H2 1 24 out acc.length (u64L acc) := hI.ow.ext hE2 (fun i hi h => by have := hI.far i hi; have := h ▸ hI.rk.1; have := h ▸ hne; have := h ▸ hrbn; omega)
    have hO3 := hO2.new (.cells [.int .u64 x] 24 true false)
    have hS3 : SV (H2.new (.cells [.int .u64 x] 24 true false)) 1 (.slice (some (H2.next, 0)) 1 (.ex 1)) [x].length (u64L [x]) := SV.new (n := 1) (sz := 1) (cs := [.int .u64 (x : Int)]) (Nat.le_refl _) (by simp)
    obtain ⟨v6, H6, ha, hO6, hE6, hv6⟩ := OU.append hO3 hS3 (by simp; omega)
    refine WP.region rfl ?_
    refine WS.val rfl (LK.move rfl) ?_
    refine WS.val rfl (LK.load rfl hx1 rfl) ?_
    refine WS.val rfl (LK.buildSlice rfl rfl rfl) ?_
    refine WS.val rfl (LK.builtin rfl ha) ?_
    refine WS.val rfl (LK.assign rfl) ?_
    refine WS.nil ?_
    refine WP.inBlock ?_
    refine WP.region rfl ?_
    refine WS.val rfl (LK.add rfl rfl) ?_
    refine WS.val rfl (LK.move rfl) ?_
    refine WS.nil ?_
    have hE7 : Ext H H6 (fun i => i = rb) := ((hI.ext.trans hE2 (fun i _ h => h)).new _).trans hE6 (fun i hi h => by have := hI.far i h; omega)
    refine WP.sub (gs := [(1, _), (5, v6), (7, _), (8, .int .i64 ((i + 1 : Nat) : Int))]) (ih (n - (i + 1)) _ _ (by omega) ⟨i + 1, v', v6, r, acc ++ [x], rfl, by omega, by simp [hacc], rfl, ?_, ⟨?_, fun j hj => hI.vb j (hv' j hj), hE7, hO6, ?_⟩⟩) ⟨rfl, rfl, rfl, ?_, trivial⟩
    · rw [hgo, e1, rdGo_step hr]
    · exact (hR.new _).ext hE6 (fun h => by have := hI.far rb h; omega) (fun j hj h => by have := hI.far j h; have := hvn j (hI.vb j (hv' j hj)); omega)
    · intro j hj
      rcases hv6 j hj with h | h
      · exact hI.far j h
      · simp at h; omega
    · show some (LV.int .i64 _) = _
      rw [wrap_i64 (by omega) (by omega)]; rfl
  · have e0 : n - i = 0 := by omega
    have hfin : rdUs n bs = some (acc, bs1) := by rw [hgo, e0]; simp [rdGo, rdUs]
    refine WP.seq ?_
    refine WP.region rfl ?_
    refine WS.val rfl (LK.lss rfl rfl) ?_
    refine WS.nil ?_
    refine WP.seq ?_
    refine WP.cond rfl (fun h9 => ?_) (fun h9 => ?_)
    · exfalso; have := of_decide_eq_true h9; omega
    refine WP.exit rfl ?_
    refine WP.seq ?_
    refine WP.region rfl ?_
    refine WS.val rfl (LK.move rfl) ?_
    refine WS.val rfl (LK.assign rfl) ?_
    refine WS.nil ?_
    refine WP.sub (gs := [(4, _)]) ?_ ⟨rfl, trivial⟩
    exact WP.ret rfl (Fin.ret' rfl rfl (.inl ⟨acc, bs1, v1, out, hfin, rfl, hI⟩))
set_option maxHeartbeats 4000000 in
theorem read_num (H : LH) (rb : Nat) (v : LV) (bs : List UInt8) (n : Nat) (hn : n ≤ 1000000) (h : RBk H rb v bs) (hvn : ∀ i, v.bid? = some i → i < H.next) : CallP Try.prog 85 [.int .i64 n, .func (.func 84) [.ptr (some (rb, 0))] []] H
    (fun o H' => (∃ l r v' out, rdUs n bs = some (l, r) ∧ o = .ret out ∧ RdIn H H' rb v v' out r 2 (l.map zzI).length (i64L (l.map zzI))) ∨ (rdUs n bs = none ∧ o = .panic invP ∧ Ext H H' (fun i => i = rb))) := by
  refine en85 (by simp) ?_
  unfold c85
  refine WP.seq ?_
  refine WP.region rfl ?_
  refine WS.val rfl (LK.assign rfl) ?_
  refine WS.nil ?_
  refine WP.seq ?_
  refine WP.region rfl ?_
  refine WS.val rfl (LK.assign rfl) ?_
  refine WS.nil ?_
  refine WP.seq ?_
  refine WP.seq ?_
  refine WP.region rfl ?_
  refine WS.val rfl (LK.move rfl) ?_
  refine WS.val rfl (LK.move rfl) ?_
  refine WS.nil ?_
  refine WP.sub (gs := [(8, _), (7, _), (5, _), (4, _), (1, _)]) ?_ ⟨rfl, rfl, rfl, rfl, rfl, trivial⟩
  refine WP.block ?_
  refine WP.loop ?_
  skip
  refine WP.sub (gs := [(1, .func (.func 84) [.ptr (some (rb, 0))] []), (5, .slice none 0 (.ex 0)), (7, .int .i64 n), (8, .int .i64 ((0 : Nat) : Int))]) ?_ ⟨rfl, rfl, rfl, rfl, trivial⟩
  refine WP.inv (fun m g H' => ∃ (i : Nat) (v1 out : LV) (bs1 : List UInt8) (acc : List Nat), m = n - i ∧ i ≤ n ∧ acc.length = i ∧ g = [(1, .func (.func 84) [.ptr (some (rb, 0))] []), (5, out), (7, .int .i64 n), (8, .int .i64 (i : Int))] ∧ rdUs n bs = rdGo acc (n - i) bs1 ∧ RdIn H H' rb v v1 out bs1 2 (acc.map zzI).length (i64L (acc.map zzI))) (n := n)
    ⟨0, v, _, bs, [], rfl, Nat.zero_le _, rfl, rfl, by simp [rdGo], ⟨h, fun i hi => hi, Ext.refl _ _, Own.nil _ _ _, fun i hi => by cases hi⟩⟩ ?_
  rintro m g H' ⟨i, v1, out, bs1, acc, rfl, hi, hacc, rfl, hgo, hI⟩ ih
  have hHn := hI.ext.next
  by_cases hlt : i < n
  · have e1 : n - i = (n - (i + 1)) + 1 := by omega
    have hR1 := hI.rk.new (.cells [.int .i64 0] 2 true false)
    have hO1 := hI.ow.new (.cells [.int .i64 0] 2 true false)
    have hne : H'.next ≠ rb := by have := hI.rk.1; omega
    have hcall := rd_num (cb := H'.next) (off := 0) hR1 (by simp) hne (fun hh => by have := hvn _ (hI.vb _ hh); omega) get_new_self (by decide)
    have hrbn : rb < H.next := h.1
    refine WP.seq ?_
    refine WP.region rfl ?_
    refine WS.val rfl (LK.lss rfl rfl) ?_
    refine WS.nil ?_
    refine WP.seq ?_
    refine WP.cond rfl (fun h9 => ?_) (fun h9 => ?_)
    rotate_left
    · exfalso; have := of_decide_eq_false h9; omega
    refine WP.skip ?_
    refine WP.seq ?_
    refine WP.block ?_
    refine WP.seq ?_
    refine WP.region rfl ?_
    refine WS.val rfl (LK.alloc) ?_
    refine WS.nil ?_
    refine WP.seq ?_
    refine WP.region rfl ?_
    refine WS.val rfl (LK.move rfl) ?_
    (refine WS.call rfl (LK.call_func rfl rfl) (CallP.mono (hcall) ?_); rintro _ Hc (⟨x, r, v', hr, rfl, rfl, hR, hv'⟩ | ⟨hr, rfl, rfl⟩); rotate_left 1; (focus (
          refine Fin.panic rfl (.inr ⟨?_, rfl, hI.ext.new _⟩)
          rw [hgo, e1]
          simp only [rdGo, rdUs, hr]
          rfl)))
    refine WS.nil ?_
    refine WP.sub (gs := [(10, _), (6, _), (9, _), (1, _), (5, _), (7, _), (8, _)]) ?_ ⟨rfl, rfl, rfl, rfl, rfl, rfl, rfl, trivial⟩
    have hx1 : (((H'.new (.cells [.int .i64 0] 2 true false)).put rb (.cells [v'] 102 true false)).put H'.next (.cells ([LV.int .i64 0].set 0 (.int .i64 (zzI x))) 2 true false)).get H'.next = some (.cells [.int .i64 (zzI x)] 2 true false) := get_put_self
    generalize hH2 : ((H'.new (.cells [.int .i64 0] 2 true false)).put rb (.cells [v'] 102 true false)).put H'.next (.cells ([LV.int .i64 0].set 0 (.int .i64 (zzI x))) 2 true false) = H2 at *
    have hn2 : H2.next = H'.next + 1 := by rw [← hH2]; rfl
    have hE2 : Ext H' H2 (fun i => i = rb) := by rw [← hH2]; exact (((Ext.refl H' (fun i => i = rb)).new _).put _ (fun _ => rfl)).put _ (fun h => by omega)
    have hO2 : Lv.Own H2 1 2 out (acc.map zzI).length (i64L (acc.map zzI)) := hI.ow.ext hE2 (fun i hi h => by have := hI.far i hi; have := h ▸ hI.rk.1; have := h ▸ hne; have := h ▸ hrbn; omega)
    have hO3 := hO2.new (.cells [.int .i64 (zzI x)] 2 true false)
    have hS3 : SV (H2.new (.cells [.int .i64 (zzI x)] 2 true false)) 1 (.slice (some (H2.next, 0)) 1 (.ex 1)) [zzI x].length (i64L [zzI x]) := SV.new (n := 1) (sz := 1) (cs := [.int .i64 (zzI x)]) (Nat.le_refl _) (by simp)
    obtain ⟨v6, H6, ha, hO6, hE6, hv6⟩ := OI.append hO3 hS3 (by simp; omega)
    refine WP.region rfl ?_
    refine WS.val rfl (LK.move rfl) ?_
    refine WS.val rfl (LK.load rfl hx1 rfl) ?_
    refine WS.val rfl (LK.buildSlice rfl rfl rfl) ?_
    refine WS.val rfl (LK.builtin rfl ha) ?_
    refine WS.val rfl (LK.assign rfl) ?_
    refine WS.nil ?_
    refine WP.inBlock ?_
    refine WP.region rfl ?_
    refine WS.val rfl (LK.add rfl rfl) ?_
    refine WS.val rfl (LK.move rfl) ?_
    refine WS.nil ?_
    have hE7 : Ext H H6 (fun i => i = rb) := ((hI.ext.trans hE2 (fun i _ h => h)).new _).trans hE6 (fun i hi h => by have := hI.far i h; omega)
    refine WP.sub (gs := [(1, _), (5, v6), (7, _), (8, .int .i64 ((i + 1 : Nat) : Int))]) (ih (n - (i + 1)) _ _ (by omega) ⟨i + 1, v', v6, r, acc ++ [x], rfl, by omega, by simp [hacc], rfl, ?_, ⟨?_, fun j hj => hI.vb j (hv' j hj), hE7, by simpa using hO6, ?_⟩⟩) ⟨rfl, rfl, rfl, ?_, trivial⟩
    · rw [hgo, e1, rdGo_step hr]
    · exact (hR.new _).ext hE6 (fun h => by have := hI.far rb h; omega) (fun j hj h => by have := hI.far j h; have := hvn j (hI.vb j (hv' j hj)); omega)
    · intro j hj
      rcases hv6 j hj with h | h
      · exact hI.far j h
      · simp at h; omega
    · show some (LV.int .i64 _) = _
      rw [wrap_i64 (by omega) (by omega)]; rfl
  · have e0 : n - i = 0 := by omega
    have hfin : rdUs n bs = some (acc, bs1) := by rw [hgo, e0]; simp [rdGo, rdUs]
    refine WP.seq ?_
    refine WP.region rfl ?_
    refine WS.val rfl (LK.lss rfl rfl) ?_
    refine WS.nil ?_
    refine WP.seq ?_
    refine WP.cond rfl (fun h9 => ?_) (fun h9 => ?_)
    · exfalso; have := of_decide_eq_true h9; omega
    refine WP.exit rfl ?_
    refine WP.seq ?_
    refine WP.region rfl ?_
    refine WS.val rfl (LK.move rfl) ?_
    refine WS.val rfl (LK.assign rfl) ?_
    refine WS.nil ?_
    refine WP.sub (gs := [(4, _)]) ?_ ⟨rfl, trivial⟩
    exact WP.ret rfl (Fin.ret' rfl rfl (.inl ⟨acc, bs1, v1, out, hfin, rfl, hI⟩))

/-! ### the reader as a visitor -/
/-- A field is read. -/
def decF (c : LCmd) (bs : List UInt8) : Vk × Nat → Option (LCmd × List UInt8)
  | (.id, off) => (rdU bs).map fun p => (if off = 1 then { c with u := p.1 } else { c with v := p.1 }, p.2)
  | (.num, off) => (rdU bs).map fun p => (if off = 3 then { c with w := zzI p.1 } else { c with t := zzI p.1 }, p.2)
  | (.draws, _) => (rdC 16384 bs).bind fun p => (rdUs p.1 p.2).map fun q => ({ c with draws := q.1 }, q.2)
  | (.bounds, _) => (rdC 1024 bs).bind fun p => (rdUs p.1 p.2).map fun q => ({ c with bounds := q.1.map zzI }, q.2)
def decL : List (Vk × Nat) → LCmd → List UInt8 → Option (LCmd × List UInt8)
  | [], c, bs => some (c, bs)
  | p :: l, c, bs => (decF c bs p).bind fun q => decL l q.1 q.2
theorem rdC_spec {most : Nat} {bs r : List UInt8} {x : Nat} (h : rdC most bs = some (x, r)) : x ≤ most ∧ x ≤ r.length ∧ r.length < bs.length := by
  unfold rdC at h
  cases h1 : rdU bs with
  | none => rw [h1] at h; cases h
  | some p =>
    rw [h1, Option.bind_some] at h
    obtain ⟨y, r1⟩ := p
    have := rdU_spec h1
    split at h
    · cases h
    · rename_i hh
      cases h
      simp only at hh
      omega

section
variable {H : LH} {rb cb off : Nat} {v : LV} {bs : List UInt8} {cs : List LV} {e : Nat} {opn : Bool}
set_option maxHeartbeats 4000000 in
theorem rd_draws (h : RBk H rb v bs) (hbl : bs.length < 2 ^ 62) (hvn : ∀ i, v.bid? = some i → i < H.next) (hcb : cb < H.next) (hcr : cb ≠ rb) (hcv : v.bid? ≠ some cb) (hc : H.get cb = some (.cells cs e true opn)) (ho : off < cs.length) :
    CallP Try.prog 82 [.ptr (some (rb, 0)), .ptr (some (cb, off))] H (fun o H' => (∃ n r1 l r v' d, rdC 16384 bs = some (n, r1) ∧ rdUs n r1 = some (l, r) ∧ o = .ret (.tuple []) ∧ H'.get cb = some (.cells (cs.set off d) e true opn) ∧ RBk H' rb v' r ∧ (∀ i, v'.bid? = some i → v.bid? = some i) ∧ SV H' 1 d l.length (u64L l) ∧ (∀ i, d.bid? = some i → H.next ≤ i) ∧ Ext H H' (fun i => i = rb ∨ i = cb)) ∨
      (((rdC 16384 bs).bind fun p => rdUs p.1 p.2) = none ∧ o = .panic invP ∧ Ext H H' (fun i => i = rb))) := by
  refine en82 (by simp) ?_
  unfold c82
  refine WP.region rfl ?_
  refine WS.val rfl (LK.move rfl) ?_
  refine WS.val rfl (LK.move rfl) ?_
  (refine WS.call rfl (LK.call rfl) (CallP.mono (rd_count (most := 16384) (by decide) h hbl) ?_); rintro _ Hc (⟨n, r1, v1, hr, rfl, rfl, hR, hv'⟩ | ⟨hr, rfl, hE⟩); rotate_left 1; (focus (exact Fin.panic rfl (.inr ⟨by rw [hr]; rfl, rfl, hE⟩))); have hcs := rdC_spec hr)
  refine WS.val rfl (LK.move rfl) ?_
  refine WS.val rfl (LK.makeFunc rfl rfl) ?_
  (refine WS.call rfl (LK.call rfl) (CallP.mono (read_id _ rb v1 r1 n (by omega) hR (fun i hi => by simpa using hvn i (hv' i hi))) ?_); rintro _ Hc (⟨l, r, v2, d, hl, rfl, hI⟩ | ⟨hl, rfl, hE⟩); rotate_left 1; (focus (exact Fin.panic rfl (.inr ⟨by rw [hr]; exact hl, rfl, ((Ext.refl H (fun i => i = rb)).put _ (fun _ => rfl)).trans hE (fun i _ h => h)⟩))); have hgc := hI.ext.get (by simpa using hcb) hcr ((get_put_other hcr).trans hc))
  refine WS.val rfl (LK.nilCheck_ptr rfl) ?_
  refine WS.skip rfl (LK.store1 rfl rfl hgc hI.ow.sv.cells hI.ow.sv.one ho) ?_
  refine WS.nil ?_
  refine WP.sub (gs := []) ?_ trivial
  have hE2 : Ext H Hc (fun i => i = rb) := ((Ext.refl H (fun i => i = rb)).put _ (fun _ => rfl)).trans hI.ext (fun i _ h => h)
  have hne : ∀ i, d.bid? = some i → i ≠ cb := fun i hi hh => by have := hI.far i hi; simp at this; omega
  have hv2 : ∀ i, v2.bid? = some i → v.bid? = some i := fun i hi => hv' i (hI.vb i hi)
  have hRk := hI.rk.put (j := cb) (.cells (cs.set off d) e true opn) (Ne.symm hcr) (fun i hi hh => hcv (hh ▸ hv2 i hi))
  have hD := hI.ow.sv.ext (W := fun i => i = cb) ((Ext.refl Hc _).put (.cells (cs.set off d) e true opn) (fun _ => rfl)) hne
  exact WP.nil rfl (Fin.ret' rfl rfl (.inl ⟨n, r1, l, r, v2, d, hr, hl, rfl, get_put_self, hRk, hv2, hD, fun i hi => by have := hI.far i hi; simpa using this, (hE2.mono (fun i _ h => .inl h)).put _ (fun _ => .inr rfl)⟩))
set_option maxHeartbeats 4000000 in
theorem rd_bounds (h : RBk H rb v bs) (hbl : bs.length < 2 ^ 62) (hvn : ∀ i, v.bid? = some i → i < H.next) (hcb : cb < H.next) (hcr : cb ≠ rb) (hcv : v.bid? ≠ some cb) (hc : H.get cb = some (.cells cs e true opn)) (ho : off < cs.length) :
    CallP Try.prog 81 [.ptr (some (rb, 0)), .ptr (some (cb, off))] H (fun o H' => (∃ n r1 l r v' d, rdC 1024 bs = some (n, r1) ∧ rdUs n r1 = some (l, r) ∧ o = .ret (.tuple []) ∧ H'.get cb = some (.cells (cs.set off d) e true opn) ∧ RBk H' rb v' r ∧ (∀ i, v'.bid? = some i → v.bid? = some i) ∧ SV H' 1 d (l.map zzI).length (i64L (l.map zzI)) ∧ (∀ i, d.bid? = some i → H.next ≤ i) ∧ Ext H H' (fun i => i = rb ∨ i = cb)) ∨
      (((rdC 1024 bs).bind fun p => rdUs p.1 p.2) = none ∧ o = .panic invP ∧ Ext H H' (fun i => i = rb))) := by
  refine en81 (by simp) ?_
  unfold c81
  refine WP.region rfl ?_
  refine WS.val rfl (LK.move rfl) ?_
  refine WS.val rfl (LK.move rfl) ?_
  (refine WS.call rfl (LK.call rfl) (CallP.mono (rd_count (most := 1024) (by decide) h hbl) ?_); rintro _ Hc (⟨n, r1, v1, hr, rfl, rfl, hR, hv'⟩ | ⟨hr, rfl, hE⟩); rotate_left 1; (focus (exact Fin.panic rfl (.inr ⟨by rw [hr]; rfl, rfl, hE⟩))); have hcs := rdC_spec hr)
  refine WS.val rfl (LK.move rfl) ?_
  refine WS.val rfl (LK.makeFunc rfl rfl) ?_
  (refine WS.call rfl (LK.call rfl) (CallP.mono (read_num _ rb v1 r1 n (by omega) hR (fun i hi => by simpa using hvn i (hv' i hi))) ?_); rintro _ Hc (⟨l, r, v2, d, hl, rfl, hI⟩ | ⟨hl, rfl, hE⟩); rotate_left 1; (focus (exact Fin.panic rfl (.inr ⟨by rw [hr]; exact hl, rfl, ((Ext.refl H (fun i => i = rb)).put _ (fun _ => rfl)).trans hE (fun i _ h => h)⟩))); have hgc := hI.ext.get (by simpa using hcb) hcr ((get_put_other hcr).trans hc))
  refine WS.val rfl (LK.nilCheck_ptr rfl) ?_
  refine WS.skip rfl (LK.store1 rfl rfl hgc hI.ow.sv.cells hI.ow.sv.one ho) ?_
  refine WS.nil ?_
  refine WP.sub (gs := []) ?_ trivial
  have hE2 : Ext H Hc (fun i => i = rb) := ((Ext.refl H (fun i => i = rb)).put _ (fun _ => rfl)).trans hI.ext (fun i _ h => h)
  have hne : ∀ i, d.bid? = some i → i ≠ cb := fun i hi hh => by have := hI.far i hi; simp at this; omega
  have hv2 : ∀ i, v2.bid? = some i → v.bid? = some i := fun i hi => hv' i (hI.vb i hi)
  have hRk := hI.rk.put (j := cb) (.cells (cs.set off d) e true opn) (Ne.symm hcr) (fun i hi hh => hcv (hh ▸ hv2 i hi))
  have hD := hI.ow.sv.ext (W := fun i => i = cb) ((Ext.refl Hc _).put (.cells (cs.set off d) e true opn) (fun _ => rfl)) hne
  exact WP.nil rfl (Fin.ret' rfl rfl (.inl ⟨n, r1, l, r, v2, d, hr, hl, rfl, get_put_self, hRk, hv2, hD, fun i hi => by have := hI.far i hi; simpa using this, (hE2.mono (fun i _ h => .inl h)).put _ (fun _ => .inr rfl)⟩))
end
theorem Ext.put1 (H : LH) (i : Nat) (o : LO) : Ext H (H.put i o) (fun j => j = i) := (Ext.refl H (fun j => j = i)).put _ (fun _ => rfl)
def rdF : Vk → Nat
  | .id => 83
  | .num => 84
  | .draws => 82
  | .bounds => 81
/-- These cells are that command, in memory from there on. -/
def CmdF (H : LH) (base : Nat) (c : LCmd) (cs : List LV) : Prop := c.Ok ∧ CmdC H c cs ∧ ∀ x ∈ cs, ∀ i, x.bid? = some i → base ≤ i
theorem CmdC.ext {H H' : LH} {W : Nat → Prop} {c : LCmd} {cs : List LV} (h : CmdC H c cs) (hE : Ext H H' W) (hw : ∀ x ∈ cs, ∀ i, x.bid? = some i → ¬ W i) : CmdC H' c cs := by
  obtain ⟨d, b, rfl, hd, hb⟩ := h
  exact ⟨d, b, rfl, hd.ext hE (hw d (by simp [cells7])), hb.ext hE (hw b (by simp [cells7]))⟩
theorem CmdF.ext {H H' : LH} {W : Nat → Prop} {base : Nat} {c : LCmd} {cs : List LV} (h : CmdF H base c cs) (hE : Ext H H' W) (hw : ∀ i, base ≤ i → ¬ W i) : CmdF H' base c cs :=
  ⟨h.1, h.2.1.ext hE (fun x hx i hi => hw i (h.2.2 x hx i hi)), h.2.2⟩
structure RdSt (H0 H : LH) (cb rb : Nat) (v0 v : LV) (bs : List UInt8) (c : LCmd) (cs : List LV) : Prop where
  rk : RBk H rb v bs
  vb : ∀ i, v.bid? = some i → v0.bid? = some i
  get : H.get cb = some (.cells cs 28 true false)
  cmd : CmdF H H0.next c cs
theorem mem_set {cs : List LV} {off : Nat} {a x : LV} (h : x ∈ cs.set off a) : x = a ∨ x ∈ cs := by
  rcases List.mem_or_eq_of_mem_set h with h | h
  · exact .inr h
  · exact .inl h

section
variable {H0 H : LH} {cb rb : Nat} {v0 v : LV} {bs : List UInt8} {c : LCmd} {cs : List LV}
theorem rd_step (hcb : cb < H0.next) (hrb : rb < H0.next) (hne : cb ≠ rb) (hv0 : ∀ i, v0.bid? = some i → i < H0.next ∧ i ≠ cb) (hE : Ext H0 H (fun i => i = rb ∨ i = cb)) (S : RdSt H0 H cb rb v0 v bs c cs) (hbl : bs.length < 2 ^ 62) {k : Vk} {off : Nat} (hp : (k, off) ∈ okVs) :
    CallP Try.prog (rdF k) [.ptr (some (rb, 0)), .ptr (some (cb, off))] H (fun o H' => Ext H H' (fun i => i = rb ∨ i = cb) ∧ ((∃ c' bs' v' cs', decF c bs (k, off) = some (c', bs') ∧ bs'.length < 2 ^ 62 ∧ o = .ret (.tuple []) ∧ RdSt H0 H' cb rb v0 v' bs' c' cs') ∨ (decF c bs (k, off) = none ∧ o = .panic invP ∧ Ext H H' (fun i => i = rb)))) := by
  have hnn := hE.next
  obtain ⟨hok, ⟨d, b, rfl, hd, hb⟩, hfar⟩ := S.cmd
  have hcn : cb < H.next := by omega
  have hcv : v.bid? ≠ some cb := fun h => (hv0 _ (S.vb _ h)).2 rfl
  have hvn : ∀ i, v.bid? = some i → i < H.next := fun i hi => by have := (hv0 _ (S.vb _ hi)).1; omega
  have hfd := hfar d (by simp [cells7])
  have hfb := hfar b (by simp [cells7])
  have two : ∀ (x y : LO), Ext H ((H.put rb x).put cb y) (fun i => i = rb ∨ i = cb) := fun x y => ((Ext.refl H (fun i => i = rb ∨ i = cb)).put _ (fun _ => .inl rfl)).put _ (fun _ => .inr rfl)
  have keepD : ∀ {H'}, Ext H H' (fun i => i = rb ∨ i = cb) → SV H' 1 d c.draws.length (u64L c.draws) := fun hE' => hd.ext hE' (fun i hi h => by have := hfd i hi; omega)
  have keepB : ∀ {H'}, Ext H H' (fun i => i = rb ∨ i = cb) → SV H' 1 b c.bounds.length (i64L c.bounds) := fun hE' => hb.ext hE' (fun i hi h => by have := hfb i hi; omega)
  have farS : ∀ (j : Nat) (a : LV), (∀ i, a.bid? = some i → H0.next ≤ i) → ∀ x ∈ (cells7 c.op c.u c.v c.w c.t d b).set j a, ∀ i, x.bid? = some i → H0.next ≤ i := fun j a ha x hx => by
    rcases mem_set hx with rfl | hx
    · exact ha
    · exact hfar x hx
  simp only [okVs, List.mem_cons, Prod.mk.injEq, List.not_mem_nil, or_false] at hp
  rcases hp with ⟨rfl, rfl⟩ | ⟨rfl, rfl⟩ | ⟨rfl, rfl⟩ | ⟨rfl, rfl⟩ | ⟨rfl, rfl⟩ | ⟨rfl, rfl⟩
  · refine (rd_id S.rk hcn hne hcv S.get (by decide : 1 < 7)).mono ?_
    rintro o H' (⟨x, r, v', hr, rfl, rfl, hR, hv'⟩ | ⟨hr, rfl, rfl⟩)
    · have hs := rdU_spec hr
      refine ⟨two _ _, .inl ⟨{ c with u := x }, r, v', _, by simp only [decF, hr]; rfl, by omega, rfl, hR, fun i hi => S.vb i (hv' i hi), get_put_self, ⟨{ hok with u := hs.1 }, ⟨d, b, rfl, keepD (two _ _), keepB (two _ _)⟩, farS 1 _ (fun i hi => by cases hi)⟩⟩⟩
    · exact ⟨Ext.refl _ _, .inr ⟨by simp only [decF, hr]; rfl, rfl, Ext.refl _ _⟩⟩
  · refine (rd_id S.rk hcn hne hcv S.get (by decide : 2 < 7)).mono ?_
    rintro o H' (⟨x, r, v', hr, rfl, rfl, hR, hv'⟩ | ⟨hr, rfl, rfl⟩)
    · have hs := rdU_spec hr
      refine ⟨two _ _, .inl ⟨{ c with v := x }, r, v', _, by simp only [decF, hr]; rfl, by omega, rfl, hR, fun i hi => S.vb i (hv' i hi), get_put_self, ⟨{ hok with v := hs.1 }, ⟨d, b, rfl, keepD (two _ _), keepB (two _ _)⟩, farS 2 _ (fun i hi => by cases hi)⟩⟩⟩
    · exact ⟨Ext.refl _ _, .inr ⟨by simp only [decF, hr]; rfl, rfl, Ext.refl _ _⟩⟩
  · refine (rd_num S.rk hcn hne hcv S.get (by decide : 3 < 7)).mono ?_
    rintro o H' (⟨x, r, v', hr, rfl, rfl, hR, hv'⟩ | ⟨hr, rfl, rfl⟩)
    · have hs := rdU_spec hr
      refine ⟨two _ _, .inl ⟨{ c with w := zzI x }, r, v', _, by simp only [decF, hr]; rfl, by omega, rfl, hR, fun i hi => S.vb i (hv' i hi), get_put_self, ⟨{ hok with w := zzI_range hs.1 }, ⟨d, b, rfl, keepD (two _ _), keepB (two _ _)⟩, farS 3 _ (fun i hi => by cases hi)⟩⟩⟩
    · exact ⟨Ext.refl _ _, .inr ⟨by simp only [decF, hr]; rfl, rfl, Ext.refl _ _⟩⟩
  · refine (rd_num S.rk hcn hne hcv S.get (by decide : 4 < 7)).mono ?_
    rintro o H' (⟨x, r, v', hr, rfl, rfl, hR, hv'⟩ | ⟨hr, rfl, rfl⟩)
    · have hs := rdU_spec hr
      refine ⟨two _ _, .inl ⟨{ c with t := zzI x }, r, v', _, by simp only [decF, hr]; rfl, by omega, rfl, hR, fun i hi => S.vb i (hv' i hi), get_put_self, ⟨{ hok with t := zzI_range hs.1 }, ⟨d, b, rfl, keepD (two _ _), keepB (two _ _)⟩, farS 4 _ (fun i hi => by cases hi)⟩⟩⟩
    · exact ⟨Ext.refl _ _, .inr ⟨by simp only [decF, hr]; rfl, rfl, Ext.refl _ _⟩⟩
  · refine (rd_draws S.rk hbl hvn hcn hne hcv S.get (by decide : 5 < 7)).mono ?_
    rintro o H' (⟨n, r1, l, r, v', d', hr, hl, rfl, hg, hR, hv', hS, hf, hE'⟩ | ⟨hr, rfl, hE'⟩)
    · have h1 := rdC_spec hr
      have h2 := rdUs_len hl
      refine ⟨hE', .inl ⟨{ c with draws := l }, r, v', _, by simp only [decF, hr, hl, Option.bind_some]; rfl, by omega, rfl, hR, fun i hi => S.vb i (hv' i hi), hg, ⟨{ hok with draws := h2.2.2 }, ⟨d', b, rfl, hS, keepB hE'⟩, farS 5 _ (fun i hi => by have := hf i hi; omega)⟩⟩⟩
    · refine ⟨hE'.mono (fun i _ h => .inl h), .inr ⟨?_, rfl, hE'⟩⟩
      simp only [decF]
      cases h1 : rdC 16384 bs with
      | none => rfl
      | some p => rw [h1, Option.bind_some] at hr; rw [Option.bind_some, hr]; rfl
  · refine (rd_bounds S.rk hbl hvn hcn hne hcv S.get (by decide : 6 < 7)).mono ?_
    rintro o H' (⟨n, r1, l, r, v', d', hr, hl, rfl, hg, hR, hv', hS, hf, hE'⟩ | ⟨hr, rfl, hE'⟩)
    · have h1 := rdC_spec hr
      have h2 := rdUs_len hl
      refine ⟨hE', .inl ⟨{ c with bounds := l.map zzI }, r, v', _, by simp only [decF, hr, hl, Option.bind_some]; rfl, by omega, rfl, hR, fun i hi => S.vb i (hv' i hi), hg, ⟨{ hok with bounds := fun x hx => ?_ }, ⟨d, d', rfl, keepD hE', hS⟩, farS 6 _ (fun i hi => by have := hf i hi; omega)⟩⟩⟩
      obtain ⟨y, hy, rfl⟩ := List.mem_map.1 hx
      exact zzI_range (h2.2.2 y hy)
    · refine ⟨hE'.mono (fun i _ h => .inl h), .inr ⟨?_, rfl, hE'⟩⟩
      simp only [decF]
      cases h1 : rdC 1024 bs with
      | none => rfl
      | some p => rw [h1, Option.bind_some] at hr; rw [Option.bind_some, hr]; rfl
end

structure RdSet (H0 : LH) (cb rb : Nat) (v0 : LV) : Prop where
  cbn : cb < H0.next
  rbn : rb < H0.next
  ne : cb ≠ rb
  vn : ∀ i, v0.bid? = some i → i < H0.next ∧ i ≠ cb
noncomputable def reader (H0 : LH) (cb rb : Nat) (v0 : LV) (target : Option (LCmd × List UInt8)) (Z : RdSet H0 cb rb v0) : Visitor 101 (.ptr (some (rb, 0))) cb where
  f := rdF
  I pr l H := ¬ pr rb ∧ ¬ pr cb ∧ (∀ i, pr i → i < H.next) ∧ Ext H0 H (fun i => i = rb ∨ i = cb) ∧ (∀ p ∈ l, p ∈ okVs) ∧ ∃ v bs c cs, RdSt H0 H cb rb v0 v bs c cs ∧ bs.length < 2 ^ 62 ∧ decL l c bs = target
  Rp p H := p = invP ∧ target = none ∧ Ext H0 H (fun i => i = rb ∨ i = cb) ∧ ∃ cs', H.get cb = some (.cells cs' 28 true false) ∧ cs'.length = 7
  m1 H := by kernel_rfl
  m2 H := by kernel_rfl
  m3 H := by kernel_rfl
  m4 H := by kernel_rfl
  s2 := by kernel_rfl
  s3 := by kernel_rfl
  s4 := by kernel_rfl
  ent k := match k with
    | .id => (inferInstance : Ent Try.prog 83)
    | .num => (inferInstance : Ent Try.prog 84)
    | .draws => (inferInstance : Ent Try.prog 82)
    | .bounds => (inferInstance : Ent Try.prog 81)
  stable := by
    rintro pr l H o ⟨h1, h2, h3, h4, h5, v, bs, c, cs, S, h6, h7⟩
    have hn := h4.next
    have e1 := Z.rbn
    have e2 := Z.cbn
    refine ⟨?_, ?_, ?_, h4.new o, h5, v, bs, c, cs, ⟨S.rk.new o, S.vb, by rw [get_new_old (by omega)]; exact S.get, S.cmd.ext (W := none') ((Ext.refl H _).new o) (fun i _ h => h)⟩, h6, h7⟩
    · rintro (h | h)
      · exact h1 h
      · omega
    · rintro (h | h)
      · exact h2 h
      · omega
    · rintro i (h | h)
      · have := h3 i h; simp; omega
      · simp; omega
  less := by
    rintro pr pr' l H ⟨h1, h2, h3, h4⟩ h
    exact ⟨fun hh => h1 (h _ hh), fun hh => h2 (h _ hh), fun i hi => h3 i (h i hi), h4⟩
  step := by
    rintro pr k off l H ⟨h1, h2, h3, h4, h5, v, bs, c, cs, S, h6, h7⟩
    refine (rd_step Z.cbn Z.rbn Z.ne Z.vn h4 S h6 (h5 _ List.mem_cons_self)).mono ?_
    rintro o H' ⟨hE, ⟨c', bs', v', cs', hd, hl, rfl, S'⟩ | ⟨hd, rfl, hEr⟩⟩
    · refine .inl ⟨rfl, ⟨h1, h2, fun i hi => by have := h3 i hi; have := hE.next; omega, h4.trans hE (fun i _ h => h), fun p hp => h5 p (List.mem_cons_of_mem _ hp), v', bs', c', cs', S', hl, ?_⟩, hE.next, ?_⟩
      · rw [← h7]
        simp only [decL, hd, Option.bind_some]
      · intro i hi hin
        exact hE.keep i hin (fun hh => hh.elim (fun h => h1 (h ▸ hi)) (fun h => h2 (h ▸ hi)))
    · refine .inr ⟨_, rfl, rfl, ?_, h4.trans hE (fun i _ h => h), cs, hEr.get (by have := h4.next; have := Z.cbn; omega) Z.ne S.get, ?_⟩
      · rw [← h7]
        simp only [decL, hd]
        rfl
      · obtain ⟨_, ⟨d, b, rfl, _, _⟩, _⟩ := S.cmd
        rfl

/-- The fields of a command are read. -/
theorem fields_readq {H : LH} {cb rb : Nat} {v0 : LV} {bs : List UInt8} {c : LCmd} {cs : List LV} (Z : RdSet H cb rb v0) (S : RdSt H H cb rb v0 v0 bs c cs) (hbl : bs.length < 2 ^ 62) :
    CallP Try.prog 33 [.ptr (some (cb, 0)), .iface 101 (.ptr (some (rb, 0)))] H (fun o H' => Ext H H' (fun i => i = rb ∨ i = cb) ∧
      ((∃ q v' bs' c' cs', o = .ret (.bool q) ∧ RdSt H H' cb rb v0 v' bs' c' cs' ∧ (q = true → ∃ l, vis c.op = some l ∧ decL l c bs = some (c', bs')) ∧ (q = false → vis c.op = none)) ∨
       (o = .panic invP ∧ (∃ l, vis c.op = some l ∧ decL l c bs = none) ∧ ∃ cs', H'.get cb = some (.cells cs' 28 true false) ∧ cs'.length = 7))) := by
  obtain ⟨hok, ⟨d, b, rfl, hd, hb⟩, hfar⟩ := id S.cmd
  refine (fields (reader H cb rb v0 (match vis c.op with | some l => decL l c bs | none => some (c, [])) Z) c.op H Z.cbn S.get rfl ?_).mono ?_
  · intro l hl
    exact ⟨fun h => h, fun h => h, fun i h => h.elim, Ext.refl _ _, vis_ok hl, v0, bs, c, _, S, hbl, by rw [hl]⟩
  · rintro o H' (⟨l, hl, rfl, pr, h1, h2, h3, h4, h5, v, bs', c', cs', S', h6, h7⟩ | ⟨hn, rfl, hE⟩ | ⟨p, rfl, hp, ht, hE, hg⟩)
    · rw [hl] at h7
      exact ⟨h4, .inl ⟨true, v, bs', c', cs', rfl, S', fun _ => ⟨l, hl, h7.symm⟩, fun h => (nomatch h)⟩⟩
    · refine ⟨hE.mono (fun i _ h => h.elim), .inl ⟨false, v0, bs, c, _, rfl, ⟨S.rk.ext hE (fun h => h) (fun i _ h => h), S.vb, hE.get Z.cbn (fun h => h) S.get, S.cmd.ext hE (fun i _ h => h)⟩, fun h => (nomatch h), fun _ => hn⟩⟩
    · cases hl : vis c.op with
      | none =>
        rw [hl] at ht
        cases ht
      | some l =>
        rw [hl] at ht
        exact ⟨hE, .inr ⟨by rw [hp], ⟨l, rfl, ht⟩, hg⟩⟩
/-! ### Get -/
def zeroC : LCmd := ⟨0, 0, 0, 0, 0, [], []⟩
def nilV : LV := .slice none 0 (.ex 0)
/-- The command of the frame at the beginning of some bytes, and how many bytes the frame has. -/
def getC (bs : List UInt8) : Option (LCmd × Nat) :=
  (rdU bs).bind fun p => if p.1 = 0 ∨ p.2.length < p.1 then none else
    let body := p.2.take p.1
    let op : Int := (body.getD 0 0).toNat
    (vis op).bind fun l => (decL l { zeroC with op := op } (body.drop 1)).bind fun q => if q.2.length = 0 then some (q.1, bs.length - p.2.length + p.1) else none
def zero7 : List LV := cells7 0 0 0 0 0 nilV nilV

/-- How a call of Get ends. -/
def GetR (H : LH) (bs : List UInt8) (o : LOut) (H' : LH) : Prop := Ext H H' none' ∧
  ((∃ c n cs, getC bs = some (c, n) ∧ o = .ret (.tuple [.agg cs, .int .i64 n, .int .i64 0]) ∧ CmdF H' H.next c cs) ∨ (getC bs = none ∧ o = .ret (.tuple [.agg zero7, .int .i64 0, .int .i64 15])))

theorem dfn {S : FS} {p : Option (LV × Bool)} {R : LOut → LH → Prop} {gf N : Nat} {cap args : List LV} {ds : List LDef} {c : Code} {rs : List ResultVar} (fn : Func) (hf : Try.prog.funcs[gf]? = some fn) (hb : fn.body = some c) (hN : fn.ntmps = N) (hr : fn.results.toList = rs)
    (hD : S.D = { fn := .func gf, captured := cap, args := args } :: ds) (he : enterable Try.prog gf = true) (hn : (args ++ cap).length ≤ N)
    (h : WP Try.prog { fn := gf, N := N, G := Try.prog.globals.size, pan := p } [.code c] (argsK 0 (args ++ cap)) S.H (FinD Try.prog S ds rs R)) : DefsP Try.prog S p R := by
  subst hN hr
  exact DefsP.fn hD he hf hb hn h
theorem get_res {H : LH} {E : Env} {cb nb eb : Nat} {cs : List LV} {n e : Int} (h1 : H.get cb = some (.cells cs 28 true false)) (hl : cs.length = 7) (h2 : H.get nb = some (.cells [.int .i64 n] 3 true false)) (h3 : H.get eb = some (.cells [.int .i64 e] 32 true false))
    (g1 : E.get 2 = some (.ptr (some (cb, 0)))) (g2 : E.get 3 = some (.ptr (some (nb, 0)))) (g3 : E.get 4 = some (.ptr (some (eb, 0)))) : Lv.results Try.prog H E [.cell 2 28, .cell 3 3, .cell 4 32] = some [.agg cs, .int .i64 n, .int .i64 e] := by
  have e1 : loadL Try.prog H 28 (.ptr (some (cb, 0))) = some (.agg cs) := by
    simp only [loadL, TAgg.out (P := Try.prog) (t := 28), TSize.out (P := Try.prog) (t := 28), cellsAt, h1]
    rw [if_pos (by omega), List.drop_zero, ← hl, List.take_length]; rfl
  have e2 : loadL Try.prog H 3 (.ptr (some (nb, 0))) = some (.int .i64 n) := by
    simp only [loadL, TAgg.out (P := Try.prog) (t := 3), TSize.out (P := Try.prog) (t := 3), cellsAt, h2]; rfl
  have e3 : loadL Try.prog H 32 (.ptr (some (eb, 0))) = some (.int .i64 e) := by
    simp only [loadL, TAgg.out (P := Try.prog) (t := 32), TSize.out (P := Try.prog) (t := 32), cellsAt, h3]; rfl
  simp only [Lv.results, g1, g2, g3, Option.bind_some, e1, e2, e3]
theorem get_ret {S : FS} {R : LOut → LH → Prop} (hD : S.D = []) (hfn : S.fn = 36) {cb nb eb : Nat} {cs : List LV} {n e : Int} (h1 : S.H.get cb = some (.cells cs 28 true false)) (hl : cs.length = 7) (h2 : S.H.get nb = some (.cells [.int .i64 n] 3 true false)) (h3 : S.H.get eb = some (.cells [.int .i64 e] 32 true false))
    (g1 : S.E.get 2 = some (.ptr (some (cb, 0)))) (g2 : S.E.get 3 = some (.ptr (some (nb, 0)))) (g3 : S.E.get 4 = some (.ptr (some (eb, 0)))) (hR : R (.ret (.tuple [.agg cs, .int .i64 n, .int .i64 e])) S.H) : DefsP Try.prog S none R := by
  obtain ⟨fn, f1, f2⟩ := FnRes.out (P := Try.prog) (f := 36)
  refine DefsP.ret (fn := fn) hD (by rw [hfn]; exact f1) (vs := [.agg cs, .int .i64 n, .int .i64 e]) ?_ hR
  rw [f2]
  exact get_res h1 hl h2 h3 g1 g2 g3
def getD (cb nb eb : Nat) : LDef := { fn := .func 47, captured := [.ptr (some (cb, 0)), .ptr (some (nb, 0)), .ptr (some (eb, 0))], args := [] }
/-- Get$1 where nothing was wrong. -/
theorem get1_ok {S : FS} {R : LOut → LH → Prop} {cb nb eb : Nat} (hD : S.D = [getD cb nb eb]) (hfn : S.fn = 36)
    {cs : List LV} {n e : Int} (h1 : S.H.get cb = some (.cells cs 28 true false)) (hl : cs.length = 7) (h2 : S.H.get nb = some (.cells [.int .i64 n] 3 true false)) (h3 : S.H.get eb = some (.cells [.int .i64 e] 32 true false))
    (g1 : S.E.get 2 = some (.ptr (some (cb, 0)))) (g2 : S.E.get 3 = some (.ptr (some (nb, 0)))) (g3 : S.E.get 4 = some (.ptr (some (eb, 0)))) (hR : R (.ret (.tuple [.agg cs, .int .i64 n, .int .i64 e])) S.H) : DefsP Try.prog S none R := by
  refine dfn (N := 18) (c := c47) (rs := []) Try.f47 (by kernel_rfl) (by kernel_rfl) (by kernel_rfl) (by kernel_rfl) hD Ent.out (by simp) ?_
  unfold c47
  have hneq : lbin Try.prog .neq 20 (.tmp 7) (.const .nilIface) .nilIface .nilIface = some (.bool false) := by kernel_rfl
  refine WP.seq ?_
  refine WP.region rfl ?_
  refine WS.recov_none rfl rfl rfl (LK.recover rfl) ?_
  refine WS.val rfl (LK.assign rfl) ?_
  refine WS.nil ?_
  refine WP.sub (gs := [(3, _), (0, _), (1, _), (2, _)]) ?_ ⟨rfl, rfl, rfl, rfl, trivial⟩
  refine WP.seq ?_
  refine WP.region rfl ?_
  refine WS.val rfl (LK.move rfl) ?_
  refine WS.val rfl (LK.bin rfl rfl hneq) ?_
  refine WS.nil ?_
  refine WP.sub (gs := [(8, _), (3, _), (0, _), (1, _), (2, _)]) ?_ ⟨rfl, rfl, rfl, rfl, rfl, trivial⟩
  refine WP.cond rfl (fun h8 => ?_) (fun h8 => ?_)
  · exact absurd h8 (by decide)
  refine WP.skip ?_
  exact WP.nil rfl (fun E e1 e2 e3 => ⟨rfl, ⟨[], rfl⟩, get_ret rfl hfn h1 hl h2 h3 g1 g2 g3 hR⟩)
/-- Get$1 where the reading was ended. -/
theorem get1_bad {S : FS} {R : LOut → LH → Prop} {cb nb eb : Nat} (hD : S.D = [getD cb nb eb]) (hfn : S.fn = 36)
    {cs : List LV} {n e : Int} (h1 : S.H.get cb = some (.cells cs 28 true false)) (hl : cs.length = 7) (h2 : S.H.get nb = some (.cells [.int .i64 n] 3 true false)) (h3 : S.H.get eb = some (.cells [.int .i64 e] 32 true false))
    (hc : cb < S.H.next ∧ nb < S.H.next ∧ eb < S.H.next ∧ cb ≠ nb ∧ cb ≠ eb ∧ nb ≠ eb)
    (g1 : S.E.get 2 = some (.ptr (some (cb, 0)))) (g2 : S.E.get 3 = some (.ptr (some (nb, 0)))) (g3 : S.E.get 4 = some (.ptr (some (eb, 0)))) (hR : ∀ H', Ext S.H H' (fun i => i = cb ∨ i = nb ∨ i = eb) → R (.ret (.tuple [.agg zero7, .int .i64 0, .int .i64 15])) H') : DefsP Try.prog S (some (invP, false)) R := by
  refine dfn (N := 18) (c := c47) (rs := []) Try.f47 (by kernel_rfl) (by kernel_rfl) (by kernel_rfl) (by kernel_rfl) hD Ent.out (by simp) ?_
  unfold c47
  have hneq : lbin Try.prog .neq 20 (.tmp 7) (.const .nilIface) invP .nilIface = some (.bool true) := by kernel_rfl
  have hta : typeAssertL Try.prog 99 invP true = some (.tuple [.agg [], .bool true]) := by kernel_rfl
  obtain ⟨c1, c2, c3, c4, c5, c6⟩ := hc
  have h1' : ((S.H.new (.cells [] 99 true false)).put S.H.next (.cells [] 99 true false)).get cb = some (.cells cs 28 true false) := by rw [get_put_other (by omega), get_new_old c1]; exact h1
  have h2' : (((S.H.new (.cells [] 99 true false)).put S.H.next (.cells [] 99 true false)).put cb (.cells zero7 28 true false)).get nb = some (.cells [.int .i64 n] 3 true false) := by rw [get_put_other (by omega), get_put_other (by omega), get_new_old c2]; exact h2
  have h3' : ((((S.H.new (.cells [] 99 true false)).put S.H.next (.cells [] 99 true false)).put cb (.cells zero7 28 true false)).put nb (.cells [.int .i64 0] 3 true false)).get eb = some (.cells [.int .i64 e] 32 true false) := by rw [get_put_other (by omega), get_put_other (by omega), get_put_other (by omega), get_new_old c3]; exact h3
  have hcs : splice cs 0 zero7 = zero7 := by
    unfold splice
    rw [List.take_zero, List.nil_append, show 0 + zero7.length = cs.length by rw [hl]; rfl, List.drop_length, List.append_nil]
  rw [← hcs] at h2' h3'
  refine WP.seq ?_
  refine WP.region rfl ?_
  refine WS.recov rfl rfl rfl (LK.recover rfl) ?_
  refine WS.val rfl (LK.assign rfl) ?_
  refine WS.nil ?_
  refine WP.sub (gs := [(3, _), (0, _), (1, _), (2, _)]) ?_ ⟨rfl, rfl, rfl, rfl, trivial⟩
  refine WP.seq ?_
  refine WP.region rfl ?_
  refine WS.val rfl (LK.move rfl) ?_
  refine WS.val rfl (LK.bin rfl rfl hneq) ?_
  refine WS.nil ?_
  refine WP.sub (gs := [(8, _), (3, _), (0, _), (1, _), (2, _)]) ?_ ⟨rfl, rfl, rfl, rfl, rfl, trivial⟩
  refine WP.cond rfl (fun h8 => ?_) (fun h8 => ?_)
  rotate_left
  · exact absurd h8 (by decide)
  refine WP.seq ?_
  refine WP.seq ?_
  refine WP.region rfl ?_
  refine WS.val rfl (LK.move rfl) ?_
  refine WS.val rfl (LK.typeAssert rfl hta) ?_
  refine WS.val rfl (LK.move rfl) ?_
  refine WS.val rfl (LK.extract rfl rfl) ?_
  refine WS.val rfl (LK.extract rfl rfl) ?_
  refine WS.val rfl (LK.alloc) ?_
  refine WS.skip rfl (LK.store (n := 0) rfl rfl get_new_self rfl rfl (Nat.le_refl 0)) ?_
  refine WS.val rfl (LK.assign rfl) ?_
  refine WS.nil ?_
  refine WP.sub (gs := [(5, _), (3, _), (0, _), (1, _), (2, _)]) ?_ ⟨rfl, rfl, rfl, rfl, rfl, trivial⟩
  refine WP.seq ?_
  refine WP.region rfl ?_
  refine WS.val rfl (LK.move rfl) ?_
  refine WS.val rfl (LK.not rfl) ?_
  refine WS.nil ?_
  refine WP.sub (gs := [(15, _), (3, _), (0, _), (1, _), (2, _)]) ?_ ⟨rfl, rfl, rfl, rfl, rfl, trivial⟩
  refine WP.cond rfl (fun h15 => ?_) (fun h15 => ?_)
  · exact absurd h15 (by decide)
  refine WP.skip ?_
  refine WP.region rfl ?_
  refine WS.val rfl (LK.build_s rfl rfl) ?_
  refine WS.skip rfl (LK.store (n := 7) rfl rfl h1' rfl rfl (by rw [hl]; decide)) ?_
  refine WS.skip rfl (LK.store1 rfl rfl h2' rfl rfl (Nat.le_refl 1)) ?_
  refine WS.skip rfl (LK.store1 rfl rfl h3' rfl rfl (Nat.le_refl 1)) ?_
  refine WS.nil ?_
  refine WP.sub (gs := []) ?_ trivial
  refine WP.nil rfl (fun E e1 e2 e3 => ⟨rfl, ⟨[], rfl⟩, ?_⟩)
  refine get_ret (cb := cb) (nb := nb) (eb := eb) (cs := zero7) (n := 0) (e := 15) rfl hfn ?_ rfl ?_ ?_ g1 g2 g3 (hR _ ?_)
  · refine Eq.trans ?_ (congrArg (fun z => some (LO.cells z 28 true false)) hcs)
    exact (get_put_other c5).trans ((get_put_other c4).trans get_put_self)
  · exact (get_put_other c6).trans get_put_self
  · exact get_put_self
  · exact ((((((Ext.refl S.H (fun i => i = cb ∨ i = nb ∨ i = eb)).new _).put _ (fun h => by omega)).put _ (fun _ => .inl rfl)).put _ (fun _ => .inr (.inl rfl))).put _ (fun _ => .inr (.inr rfl)))

theorem LK.sub_to {G : Nat} {g : Kno} {H : LH} {t t' : Nat} {x y : Operand} {k : IntKind} {a b c : Int} (hx : evk g G x = some (.int k a)) (hy : evk g G y = some (.int k b)) (hw : k.wrap (a - b) = c) : LK Try.prog G g H (.binOp .sub t x y t') (.val (.int k c) H) := by
  subst hw; exact LK.sub hx hy
theorem LK.add_to {G : Nat} {g : Kno} {H : LH} {t t' : Nat} {x y : Operand} {k : IntKind} {a b c : Int} (hx : evk g G x = some (.int k a)) (hy : evk g G y = some (.int k b)) (hw : k.wrap (a + b) = c) : LK Try.prog G g H (.binOp .add t x y t') (.val (.int k c) H) := by
  subst hw; exact LK.add hx hy

/-- How far Get has come. -/
structure GSt (H Hk : LH) (v : LV) (bs : List UInt8) (cs : List LV) (n : Int) : Prop where
  ext : Ext H Hk none'
  nx : H.next + 4 ≤ Hk.next
  gc : Hk.get H.next = some (.cells cs 28 true false)
  cl : cs.length = 7
  gn : Hk.get (H.next + 1) = some (.cells [.int .i64 n] 3 true false)
  ge : Hk.get (H.next + 2) = some (.cells [.int .i64 0] 32 true false)
  rk : RBk Hk (H.next + 3) v bs
  vb : ∀ i, v.bid? = some i → i < H.next
theorem GSt.putr {H Hk : LH} {v v' : LV} {bs bs' : List UInt8} {cs : List LV} {n : Int} (S : GSt H Hk v bs cs n) (hb : BV Hk v' bs') (hv : ∀ i, v'.bid? = some i → v.bid? = some i) : GSt H (Hk.put (H.next + 3) (.cells [v'] 102 true false)) v' bs' cs n :=
  ⟨S.ext.put _ (fun h => by omega), S.nx, by rw [get_put_other (by omega)]; exact S.gc, S.cl, by rw [get_put_other (by omega)]; exact S.gn, by rw [get_put_other (by omega)]; exact S.ge, S.rk.next hb hv, fun i hi => S.vb i (hv i hi)⟩
theorem GSt.putn {H Hk : LH} {v : LV} {bs : List UInt8} {cs : List LV} {n : Int} (S : GSt H Hk v bs cs n) (m : Int) : GSt H (Hk.put (H.next + 1) (.cells [.int .i64 m] 3 true false)) v bs cs m :=
  ⟨S.ext.put _ (fun h => by omega), S.nx, by rw [get_put_other (by omega)]; exact S.gc, S.cl, get_put_self, by rw [get_put_other (by omega)]; exact S.ge, S.rk.put _ (by omega) (fun i hi => by have := S.vb i hi; omega), S.vb⟩
theorem GSt.putc {H Hk : LH} {v : LV} {bs : List UInt8} {cs : List LV} {n : Int} (S : GSt H Hk v bs cs n) (cs' : List LV) (h : cs'.length = 7) : GSt H (Hk.put H.next (.cells cs' 28 true false)) v bs cs' n :=
  ⟨S.ext.put _ (fun h => by omega), S.nx, get_put_self, h, by rw [get_put_other (by omega)]; exact S.gn, by rw [get_put_other (by omega)]; exact S.ge, S.rk.put _ (by omega) (fun i hi => by have := S.vb i hi; omega), S.vb⟩
theorem get_bad' {H : LH} {S : FS} {bs : List UInt8} {cs : List LV} {n : Int} (hnone : getC bs = none) (hE : Ext H S.H none') (hn : H.next + 4 ≤ S.H.next) (gc : S.H.get H.next = some (.cells cs 28 true false)) (hl : cs.length = 7) (gn : S.H.get (H.next + 1) = some (.cells [.int .i64 n] 3 true false))
    (ge : S.H.get (H.next + 2) = some (.cells [.int .i64 0] 32 true false)) (hD : S.D = [getD H.next (H.next + 1) (H.next + 2)]) (hfn : S.fn = 36)
    (g1 : S.E.get 2 = some (.ptr (some (H.next, 0)))) (g2 : S.E.get 3 = some (.ptr (some (H.next + 1, 0)))) (g3 : S.E.get 4 = some (.ptr (some (H.next + 2, 0)))) : DefsP Try.prog S (some (invP, false)) (GetR H bs) :=
  get1_bad hD hfn gc hl gn ge ⟨by omega, by omega, by omega, by omega, by omega, by omega⟩ g1 g2 g3 (fun H' hE' => ⟨hE.trans hE' (fun i hi h => by omega), .inr ⟨hnone, rfl⟩⟩)
theorem get_bad {H : LH} {S : FS} {bs bs' : List UInt8} {v : LV} {cs : List LV} {n : Int} (hnone : getC bs = none) (G : GSt H S.H v bs' cs n) (hD : S.D = [getD H.next (H.next + 1) (H.next + 2)]) (hfn : S.fn = 36)
    (g1 : S.E.get 2 = some (.ptr (some (H.next, 0)))) (g2 : S.E.get 3 = some (.ptr (some (H.next + 1, 0)))) (g3 : S.E.get 4 = some (.ptr (some (H.next + 2, 0)))) : DefsP Try.prog S (some (invP, false)) (GetR H bs) :=
  get_bad' hnone G.ext G.nx G.gc G.cl G.gn G.ge hD hfn g1 g2 g3

theorem gst_set {H Hk : LH} {v : LV} {bs : List UInt8} {cs : List LV} {n : Int} (S : GSt H Hk v bs cs n) : RdSet Hk H.next (H.next + 3) v := by
  have := S.nx
  exact { cbn := by omega, rbn := S.rk.1, ne := by omega, vn := fun i hi => by have := S.vb i hi; exact ⟨by omega, by omega⟩ }
theorem gst_st {H Hk : LH} {v : LV} {bs : List UInt8} {op : Nat} {n : Int} (S : GSt H Hk v bs (cells7 op 0 0 0 0 nilV nilV) n) (hop : op < 256) : RdSt Hk Hk H.next (H.next + 3) v v bs { zeroC with op := op } (cells7 op 0 0 0 0 nilV nilV) :=
  { rk := S.rk, vb := fun i hi => hi, get := S.gc
    cmd := ⟨{ op := ⟨by show -9223372036854775808 ≤ (op : Int); omega, by show (op : Int) < 9223372036854775808; omega⟩, u := (by decide : (0 : Nat) < 2 ^ 64), v := (by decide : (0 : Nat) < 2 ^ 64), w := (⟨by decide, by decide⟩ : In64 0), t := (⟨by decide, by decide⟩ : In64 0), draws := fun x hx => (nomatch hx), bounds := fun x hx => (nomatch hx) },
      ⟨nilV, nilV, rfl, SV.nil _ _, SV.nil _ _⟩, fun x hx i hi => by simp only [cells7, List.mem_cons, List.not_mem_nil, or_false] at hx; rcases hx with rfl | rfl | rfl | rfl | rfl | rfl | rfl <;> cases hi⟩ }

set_option maxHeartbeats 8000000 in
theorem get (H : LH) (b : LV) (bs : List UInt8) (hb : BV H b bs) (hbl : bs.length < 2 ^ 62) : CallP Try.prog 36 [b] H (GetR H bs) := by
  refine en36 (by simp) ?_
  unfold c36
  -- the results' blocks and the reader
  generalize hH1 : (((H.new (.cells zero7 28 true false)).new (.cells [.int .i64 0] 3 true false)).new (.cells [.int .i64 0] 32 true false)).new (.cells [b] 102 true false) = H1
  have hn1 : H1.next = H.next + 4 := by rw [← hH1]; rfl
  have hE1 : Ext H H1 none' := by rw [← hH1]; exact ((((Ext.refl _ _).new _).new _).new _).new _
  have S1 : GSt H H1 b bs zero7 0 :=
    { ext := hE1, nx := by omega, cl := rfl
      gc := by rw [← hH1]; rw [get_new_old (by simp only [LH.next_new]; omega), get_new_old (by simp only [LH.next_new]; omega), get_new_old (by simp only [LH.next_new]; omega)]; exact get_new_self
      gn := by rw [← hH1]; rw [get_new_old (by simp only [LH.next_new]; omega), get_new_old (by simp only [LH.next_new]; omega)]; exact get_new_self
      ge := by rw [← hH1]; rw [get_new_old (by simp only [LH.next_new]; omega)]; exact get_new_self
      rk := ⟨by omega, by rw [← hH1]; exact get_new_self, hb.ext hE1 (fun i _ h => h), fun i hi => by have := hb.lt hi; omega⟩
      vb := fun i hi => hb.lt hi }
  have hfill : fillL (([(0, 1)] : List (Nat × Nat))[·]?) (LV.agg [.slice none 0 (.ex 0)]).cells [(0, b)] = some [b] := by
    have e := SV.cells hb
    show fillL _ [LV.slice none 0 (.ex 0)] [(0, b)] = _
    simp only [fillL, e]
    simp [splice]
  have hgc0 : rdU bs = none → getC bs = none := fun h => by unfold getC; rw [h]; rfl
  refine WP.seq ?_
  refine WP.region rfl ?_
  refine WS.val rfl (LK.alloc) ?_
  refine WS.val rfl (LK.alloc) ?_
  refine WS.val rfl (LK.alloc) ?_
  refine WS.nil ?_
  refine WP.seq ?_
  refine WP.region rfl ?_
  refine WS.val rfl (LK.makeFunc rfl rfl) ?_
  refine WS.defer rfl rfl (LK.defer rfl rfl) ?_
  refine WS.nil ?_
  refine WP.sub (gs := [(4, _), (3, _), (2, _), (0, _)]) ?_ ⟨rfl, rfl, rfl, rfl, trivial⟩
  refine WP.seq ?_
  refine WP.region rfl ?_
  refine WS.val rfl (LK.move rfl) ?_
  refine WS.val rfl (LK.build_s rfl hfill) ?_
  refine WS.val rfl (LK.box rfl (by show (oneCell b && true) = true; rw [SV.one hb]; rfl)) ?_
  refine WS.val rfl (LK.assign rfl) ?_
  refine WS.nil ?_
  refine WP.sub (gs := [(5, _), (4, _), (3, _), (2, _), (0, _)]) ?_ ⟨rfl, rfl, rfl, rfl, rfl, trivial⟩
  refine WP.seq ?_
  refine (?_ : WP Try.prog _ _ _ ((((H.new (.cells zero7 28 true false)).new (.cells [.int .i64 0] 3 true false)).new (.cells [.int .i64 0] 32 true false)).new (.cells [b] 102 true false)) _)
  rw [hH1]
  refine WP.region rfl ?_
  refine WS.val rfl (LK.move rfl) ?_
  (refine WS.call rfl (LK.call rfl) (CallP.mono (rd_next (rb := H.next + 3) S1.rk) ?_); rintro _ Hc (⟨size, r, v1, hr, rfl, rfl, hR2, hv1⟩ | ⟨hr, rfl, rfl⟩); rotate_left 1; (focus (exact fun E e1 e2 e3 => get_bad (hgc0 hr) S1 rfl rfl (e3 2 _ rfl) (e3 3 _ rfl) (e3 4 _ rfl))))
  refine WS.val rfl (LK.assign rfl) ?_
  refine WS.nil ?_
  refine WP.sub (gs := [(6, _), (5, _), (4, _), (3, _), (2, _), (0, _)]) ?_ ⟨rfl, rfl, rfl, rfl, rfl, rfl, trivial⟩
  refine WP.seq ?_
  refine WP.seq ?_
  have hs := rdU_spec hr
  have S2 : GSt H (H1.put (H.next + 3) (.cells [v1] 102 true false)) v1 r zero7 0 := by
    refine ⟨S1.ext.put _ (fun h => by omega), S1.nx, by rw [get_put_other (by omega)]; exact S1.gc, S1.cl, by rw [get_put_other (by omega)]; exact S1.gn, by rw [get_put_other (by omega)]; exact S1.ge, hR2, fun i hi => S1.vb i (hv1 i hi)⟩
  have hbb := hb.ext S2.ext (fun i _ h => h)
  generalize H1.put (H.next + 3) (.cells [v1] 102 true false) = H2 at *
  refine WP.region rfl ?_
  refine WS.val rfl (LK.move rfl) ?_
  refine WS.val rfl (LK.eql rfl rfl) ?_
  refine WS.val rfl (LK.move rfl) ?_
  first | refine WS.val rfl (LK.move rfl) ?_ | refine WS.no rfl ?_ | (refine WS.guard rfl (fun h15 => ?_) (fun h15 => ?_) <;> first | refine WS.val rfl (LK.move rfl) ?_ | refine WS.no rfl ?_)
  all_goals first | refine WS.val rfl (LK.move rfl) ?_ | refine WS.no rfl ?_
  all_goals first | refine WS.val rfl (LK.nilCheck_ptr rfl) ?_ | refine WS.no rfl ?_
  all_goals first | refine WS.val rfl (LK.fieldAddr rfl rfl) ?_ | refine WS.no rfl ?_
  all_goals first | refine WS.val rfl (LK.load rfl S2.rk.2.1 rfl) ?_ | refine WS.no rfl ?_
  all_goals first | refine WS.val rfl (SV.len S2.rk.2.2.1 rfl) ?_ | refine WS.no rfl ?_
  all_goals first | refine WS.val rfl (LK.conv_to (b := (r.length : Int)) rfl (wrap_u64 (by omega) (by omega))) ?_ | refine WS.no rfl ?_
  all_goals first | refine WS.val rfl (LK.gtr rfl rfl) ?_ | refine WS.no rfl ?_
  all_goals first | refine WS.val rfl (LK.pick_t rfl rfl) ?_ | refine WS.val rfl (LK.pick_f rfl rfl) ?_
  all_goals
   refine WS.nil ?_
   refine WP.sub (gs := [(24, _), (6, _), (5, _), (4, _), (3, _), (2, _), (0, _)]) ?_ ⟨rfl, rfl, rfl, rfl, rfl, rfl, rfl, trivial⟩
   refine WP.cond rfl (fun h24 => ?_) (fun h24 => ?_)
   · skip
     refine WP.region rfl ?_
     refine WS.val rfl (LK.build_s rfl rfl) ?_
     refine WS.val rfl (LK.makeInterface rfl) ?_
     refine WS.panic rfl (LK.panic rfl) ?_
     first
       | (refine (fun E e1 e2 e3 => get_bad (?_ : getC bs = none) S2 rfl rfl (e3 2 _ rfl) (e3 3 _ rfl) (e3 4 _ rfl))
          unfold getC
          rw [hr, Option.bind_some, if_pos]
          simp only [Bool.not_false, Bool.not_true, decide_eq_true_eq, decide_eq_false_iff_not, beq_iff_eq, beq_eq_false_iff_ne, ne_eq] at *
          show size = 0 ∨ r.length < size
          omega)
       | (refine (fun E e1 e2 e3 => get_bad (?_ : getC bs = none) G7 rfl rfl (e3 2 _ rfl) (e3 3 _ rfl) (e3 4 _ rfl))
          rw [hbody]
          cases q with
          | false => rw [hf rfl]; rfl
          | true =>
            first
              | exact absurd h67 (by decide)
              | (obtain ⟨l, hl, hd⟩ := ht rfl
                 have hl' : vis opn4 = some l := hl
                 rw [hl', Option.bind_some, hd, Option.bind_some, if_neg]
                 simp only [Bool.not_false, Bool.not_true, decide_eq_true_eq, decide_eq_false_iff_not, beq_iff_eq, beq_eq_false_iff_ne, ne_eq] at *
                 show ¬ bs7.length = 0
                 omega))
   first
    | ((cases h24); done)
    | skip
      refine WP.skip ?_
      refine WP.seq ?_
      have hsz : ¬ (size = 0 ∨ r.length < size) := by
        simp only [Bool.not_false, Bool.not_true, decide_eq_true_eq, decide_eq_false_iff_not, beq_iff_eq, beq_eq_false_iff_ne, ne_eq] at *
        omega
      have S3 := S2.putn ((bs.length - r.length + size : Nat) : Int)
      obtain ⟨v3, hsl3, hb3, hv3⟩ := S3.rk.2.2.1.slice (t := 22) (lo := none) (hi := some (.int .u64 (size : Int))) (l := 0) (r := size) rfl (natOf_cast (k := .u64)) (Nat.zero_le _) (by omega)
      rw [List.drop_zero, Nat.sub_zero] at hb3
      have S4 := S3.putr hb3 hv3
      have hl4 : (r.take size).length = size := by rw [List.length_take]; omega
      obtain ⟨bi, off, cc, cs4, el, ow, opn, hbv4, hbi4, hg4, hc4⟩ := S4.rk.2.2.1.at1 (k := 0) (by omega)
      rw [bytesL_get (by omega)] at hc4
      have hop : IntKind.i64.wrap (((r.take size).getD 0 0).toNat : Int) = (((r.take size).getD 0 0).toNat : Int) := by
        have := UInt8.toNat_lt ((r.take size).getD 0 0)
        exact wrap_i64 (by omega) (by omega)
      generalize hopv : ((r.take size).getD 0 0).toNat = opn4 at *
      have S5 := S4.putc (cells7 opn4 0 0 0 0 nilV nilV) rfl
      obtain ⟨v6, hsl6, hb6, hv6⟩ := S5.rk.2.2.1.slice (t := 22) (lo := some (.int .i64 ((1 : Nat) : Int))) (hi := none) (l := 1) (r := (r.take size).length) (natOf_cast (k := .i64)) rfl (by omega) (Nat.le_refl _)
      have e6 : ((r.take size).drop 1).take ((r.take size).length - 1) = (r.take size).drop 1 := List.take_of_length_le (by simp)
      rw [e6] at hb6
      have S6 := S5.putr hb6 hv6
      refine WP.region rfl ?_
      refine WS.val rfl (LK.move rfl) ?_
      refine WS.val rfl (SV.len hbb rfl) ?_
      refine WS.val rfl (LK.move rfl) ?_
      refine WS.val rfl (LK.nilCheck_ptr rfl) ?_
      refine WS.val rfl (LK.fieldAddr rfl rfl) ?_
      refine WS.val rfl (LK.load rfl S2.rk.2.1 rfl) ?_
      refine WS.val rfl (SV.len S2.rk.2.2.1 rfl) ?_
      refine WS.val rfl (LK.sub_to (c := ((bs.length - r.length : Nat) : Int)) rfl rfl (by rw [wrap_i64 (by omega) (by omega)]; omega)) ?_
      refine WS.val rfl (LK.move rfl) ?_
      refine WS.val rfl (LK.conv_to (b := (size : Int)) rfl (wrap_i64 (by omega) (by omega))) ?_
      refine WS.val rfl (LK.add_to (c := ((bs.length - r.length + size : Nat) : Int)) rfl rfl (by rw [wrap_i64 (by omega) (by omega)]; omega)) ?_
      refine WS.skip rfl (LK.store1 rfl rfl S2.gn rfl rfl (Nat.le_refl 1)) ?_
      refine WS.nil ?_
      refine WP.sub (gs := [(6, _), (5, _), (4, _), (3, _), (2, _)]) ?_ ⟨rfl, rfl, rfl, rfl, rfl, trivial⟩
      refine WP.seq ?_
      refine WP.region rfl ?_
      refine WS.val rfl (LK.move rfl) ?_
      refine WS.val rfl (LK.move rfl) ?_
      refine WS.val rfl (LK.nilCheck_ptr rfl) ?_
      refine WS.val rfl (LK.fieldAddr rfl rfl) ?_
      refine WS.val rfl (LK.load rfl S3.rk.2.1 rfl) ?_
      refine WS.val rfl (LK.move rfl) ?_
      refine WS.val rfl (LK.slice rfl rfl rfl rfl hsl3) ?_
      refine WS.val rfl (LK.nilCheck_ptr rfl) ?_
      refine WS.val rfl (LK.fieldAddr rfl rfl) ?_
      refine WS.skip rfl (LK.store1 rfl rfl S3.rk.2.1 (SV.cells hb3) (SV.one hb3) (Nat.le_refl 1)) ?_
      refine WS.nil ?_
      refine WP.sub (gs := [(5, _), (4, _), (3, _), (2, _)]) ?_ ⟨rfl, rfl, rfl, rfl, trivial⟩
      refine WP.seq ?_
      refine WP.region rfl ?_
      refine WS.val rfl (LK.move rfl) ?_
      refine WS.val rfl (LK.nilCheck_ptr rfl) ?_
      refine WS.val rfl (LK.fieldAddr rfl rfl) ?_
      refine WS.val rfl (LK.load rfl S4.rk.2.1 rfl) ?_
      refine WS.val rfl (LK.indexAddr (congrArg some hbv4) rfl (natOf_cast (k := .i64) (j := 0)) (by omega)) ?_
      refine WS.val rfl (LK.load rfl hg4 hc4) ?_
      refine WS.val rfl (LK.conv_to rfl hop) ?_
      refine WS.val rfl (LK.fieldAddr rfl rfl) ?_
      refine WS.skip rfl (LK.store1 rfl rfl S4.gc rfl rfl (by decide)) ?_
      refine WS.nil ?_
      refine WP.sub (gs := [(5, _), (4, _), (3, _), (2, _)]) ?_ ⟨rfl, rfl, rfl, rfl, trivial⟩
      refine WP.seq ?_
      refine WP.region rfl ?_
      refine WS.val rfl (LK.move rfl) ?_
      refine WS.val rfl (LK.move rfl) ?_
      refine WS.val rfl (LK.nilCheck_ptr rfl) ?_
      refine WS.val rfl (LK.fieldAddr rfl rfl) ?_
      refine WS.val rfl (LK.load rfl S5.rk.2.1 rfl) ?_
      refine WS.val rfl (LK.slice rfl rfl rfl rfl hsl6) ?_
      refine WS.val rfl (LK.nilCheck_ptr rfl) ?_
      refine WS.val rfl (LK.fieldAddr rfl rfl) ?_
      refine WS.skip rfl (LK.store1 rfl rfl S5.rk.2.1 (SV.cells hb6) (SV.one hb6) (Nat.le_refl 1)) ?_
      refine WS.nil ?_
      refine WP.sub (gs := [(5, _), (4, _), (3, _), (2, _)]) ?_ ⟨rfl, rfl, rfl, rfl, trivial⟩
      refine WP.seq ?_
      refine WP.seq ?_
      have hop8 : opn4 < 256 := by rw [← hopv]; exact UInt8.toNat_lt _
      have Z6 := gst_set S6
      have T6 := gst_st S6 hop8
      have hbody : getC bs = (vis opn4).bind fun l => (decL l { zeroC with op := opn4 } ((r.take size).drop 1)).bind fun q => if q.2.length = 0 then some (q.1, bs.length - r.length + size) else none := by
        unfold getC
        rw [hr, Option.bind_some, if_neg hsz]
        simp only [hopv]
      refine WP.region rfl ?_
      refine WS.val rfl (LK.move rfl) ?_
      refine WS.val rfl (LK.makeInterface rfl) ?_
      (refine WS.call rfl (LK.call rfl) (CallP.mono (fields_readq (cb := H.next) (rb := H.next + 3) Z6 T6 (by simp only [List.length_drop, List.length_take]; omega)) ?_); rintro _ Hc ⟨hE7, (⟨q, v7, bs7, c7, cs7, rfl, S7, ht, hf⟩ | ⟨rfl, hbad, cs7, hg7, hl7⟩)⟩; rotate_left 1; (focus (
            refine (fun E e1 e2 e3 => get_bad' (n := ((bs.length - r.length + size : Nat) : Int)) ?_ (S6.ext.trans hE7 (fun i hi h => by omega)) (Nat.le_trans S6.nx hE7.next) hg7 hl7 (hE7.get (Nat.lt_of_lt_of_le (by omega) S6.nx) (by omega) S6.gn) (hE7.get (Nat.lt_of_lt_of_le (by omega) S6.nx) (by omega) S6.ge) rfl rfl (e3 2 _ rfl) (e3 3 _ rfl) (e3 4 _ rfl))
            obtain ⟨l, hl, hd⟩ := hbad
            have hl' : vis opn4 = some l := hl
            rw [hbody, hl', Option.bind_some, hd]
            rfl)); (
          have G7 : GSt H Hc v7 bs7 cs7 ((bs.length - r.length + size : Nat) : Int) := by
            have hn6 := S6.nx
            refine ⟨S6.ext.trans hE7 (fun i hi h => by omega), Nat.le_trans hn6 hE7.next, S7.get, ?_, hE7.get (Nat.lt_of_lt_of_le (by omega) hn6) (by omega) S6.gn, hE7.get (Nat.lt_of_lt_of_le (by omega) hn6) (by omega) S6.ge, S7.rk, fun i hi => S6.vb i (S7.vb i hi)⟩
            obtain ⟨_, ⟨d7, b7, rfl, _, _⟩, _⟩ := S7.cmd
            rfl))
      refine WS.val rfl (LK.not rfl) ?_
      refine WS.val rfl (LK.move rfl) ?_
      first | refine WS.val rfl (LK.move rfl) ?_ | refine WS.no rfl ?_ | (refine WS.guard rfl (fun h67 => ?_) (fun h67 => ?_) <;> first | refine WS.val rfl (LK.move rfl) ?_ | refine WS.no rfl ?_)
      all_goals first | refine WS.val rfl (LK.nilCheck_ptr rfl) ?_ | refine WS.no rfl ?_
      all_goals first | refine WS.val rfl (LK.fieldAddr rfl rfl) ?_ | refine WS.no rfl ?_
      all_goals first | refine WS.val rfl (LK.load rfl G7.rk.2.1 rfl) ?_ | refine WS.no rfl ?_
      all_goals first | refine WS.val rfl (SV.len G7.rk.2.2.1 rfl) ?_ | refine WS.no rfl ?_
      all_goals first | refine WS.val rfl (LK.gtr rfl rfl) ?_ | refine WS.no rfl ?_
      all_goals first | refine WS.val rfl (LK.pick_t rfl rfl) ?_ | refine WS.val rfl (LK.pick_f rfl rfl) ?_
      all_goals
       refine WS.nil ?_
       refine WP.sub (gs := [(74, _), (4, _), (3, _), (2, _)]) ?_ ⟨rfl, rfl, rfl, rfl, trivial⟩
       refine WP.cond rfl (fun h74 => ?_) (fun h74 => ?_)
       · skip
         refine WP.region rfl ?_
         refine WS.val rfl (LK.build_s rfl rfl) ?_
         refine WS.val rfl (LK.makeInterface rfl) ?_
         refine WS.panic rfl (LK.panic rfl) ?_
         first
           | (refine (fun E e1 e2 e3 => get_bad (?_ : getC bs = none) S2 rfl rfl (e3 2 _ rfl) (e3 3 _ rfl) (e3 4 _ rfl))
              unfold getC
              rw [hr, Option.bind_some, if_pos]
              simp only [Bool.not_false, Bool.not_true, decide_eq_true_eq, decide_eq_false_iff_not, beq_iff_eq, beq_eq_false_iff_ne, ne_eq] at *
              show size = 0 ∨ r.length < size
              omega)
           | (refine (fun E e1 e2 e3 => get_bad (?_ : getC bs = none) G7 rfl rfl (e3 2 _ rfl) (e3 3 _ rfl) (e3 4 _ rfl))
              rw [hbody]
              cases q with
              | false => rw [hf rfl]; rfl
              | true =>
                first
                  | exact absurd h67 (by decide)
                  | (obtain ⟨l, hl, hd⟩ := ht rfl
                     have hl' : vis opn4 = some l := hl
                     rw [hl', Option.bind_some, hd, Option.bind_some, if_neg]
                     simp only [Bool.not_false, Bool.not_true, decide_eq_true_eq, decide_eq_false_iff_not, beq_iff_eq, beq_eq_false_iff_ne, ne_eq] at *
                     show ¬ bs7.length = 0
                     omega))
       first
        | ((cases h74); done)
        | skip
          refine WP.skip ?_
          refine WP.seq ?_
          have hone7 : cs7.all oneCell = true := by
            obtain ⟨_, ⟨d7, b7, rfl, hd7, hb7⟩, _⟩ := S7.cmd
            exact cells7_one (SV.one hd7) (SV.one hb7)
          have hspl : splice cs7 0 cs7 = cs7 := by
            unfold splice
            rw [List.take_zero, List.nil_append, Nat.zero_add, List.drop_length, List.append_nil]
          have G8 := G7.putc (splice cs7 0 cs7) (by rw [hspl]; exact G7.cl)
          have G9 := G8.putn ((bs.length - r.length + size : Nat) : Int)
          have hget : getC bs = some (c7, bs.length - r.length + size) := by
            have hq : q = true := by
              cases q with
              | true => rfl
              | false => exact absurd h67 (by decide)
            obtain ⟨l, hl, hd⟩ := ht hq
            have hl' : vis opn4 = some l := hl
            rw [hbody, hl', Option.bind_some, hd, Option.bind_some, if_pos]
            simp only [Bool.not_false, Bool.not_true, decide_eq_true_eq, decide_eq_false_iff_not, beq_iff_eq, beq_eq_false_iff_ne, ne_eq] at *
            show bs7.length = 0
            omega
          refine WP.conf rfl ?_
          refine WC.read rfl (LK.load_agg (xs := cs7) rfl G7.gc (by rw [G7.cl]; omega) (by rw [List.drop_zero]; exact List.take_of_length_le (by rw [G7.cl]; omega))) (fun o h => by simp only [okind, h]) (by first | exact trivial | exact ⟨.inl rfl, trivial⟩ | exact ⟨.inl rfl, .inl rfl, trivial⟩ | exact ⟨.inl rfl, .inl rfl, .inl rfl, trivial⟩ | exact ⟨.inl rfl, .inl rfl, .inl rfl, .inl rfl, trivial⟩ | exact ⟨.inr ⟨_, LK.load rfl G8.gn rfl⟩, .inl rfl, trivial⟩) ?_
          refine WC.read rfl (LK.load rfl G7.gn rfl) (fun o h => by simp only [okind, h]) (by first | exact trivial | exact ⟨.inl rfl, trivial⟩ | exact ⟨.inl rfl, .inl rfl, trivial⟩ | exact ⟨.inl rfl, .inl rfl, .inl rfl, trivial⟩ | exact ⟨.inl rfl, .inl rfl, .inl rfl, .inl rfl, trivial⟩ | exact ⟨.inr ⟨_, LK.load rfl G8.gn rfl⟩, .inl rfl, trivial⟩) ?_
          refine WC.skip rfl (LK.store (n := 7) rfl rfl G7.gc G7.cl hone7 (by rw [G7.cl]; omega)) (fun o h => by simp only [okind, h]) (by first | exact trivial | exact ⟨.inl rfl, trivial⟩ | exact ⟨.inl rfl, .inl rfl, trivial⟩ | exact ⟨.inl rfl, .inl rfl, .inl rfl, trivial⟩ | exact ⟨.inl rfl, .inl rfl, .inl rfl, .inl rfl, trivial⟩ | exact ⟨.inr ⟨_, LK.load rfl G8.gn rfl⟩, .inl rfl, trivial⟩) ?_
          refine WC.skip rfl (LK.store1 rfl rfl G8.gn rfl rfl (Nat.le_refl 1)) (fun o h => by simp only [okind, h]) (by first | exact trivial | exact ⟨.inl rfl, trivial⟩ | exact ⟨.inl rfl, .inl rfl, trivial⟩ | exact ⟨.inl rfl, .inl rfl, .inl rfl, trivial⟩ | exact ⟨.inl rfl, .inl rfl, .inl rfl, .inl rfl, trivial⟩ | exact ⟨.inr ⟨_, LK.load rfl G8.gn rfl⟩, .inl rfl, trivial⟩) ?_
          refine WC.skip rfl (LK.store1 rfl rfl G9.ge rfl rfl (Nat.le_refl 1)) (fun o h => by simp only [okind, h]) (by first | exact trivial | exact ⟨.inl rfl, trivial⟩ | exact ⟨.inl rfl, .inl rfl, trivial⟩ | exact ⟨.inl rfl, .inl rfl, .inl rfl, trivial⟩ | exact ⟨.inl rfl, .inl rfl, .inl rfl, .inl rfl, trivial⟩ | exact ⟨.inr ⟨_, LK.load rfl G8.gn rfl⟩, .inl rfl, trivial⟩) ?_
          refine WC.nil ?_
          refine WP.sub (gs := [(4, _), (3, _), (2, _)]) ?_ ⟨rfl, rfl, rfl, trivial⟩
          refine (?_ : WP Try.prog _ _ _ (((Hc.put H.next (.cells (splice cs7 0 cs7) 28 true false)).put (H.next + 1) (.cells [.int .i64 ((bs.length - r.length + size : Nat) : Int)] 3 true false)).put (H.next + 2) (.cells [.int .i64 0] 32 true false)) _)
          generalize hH9 : (((Hc.put H.next (.cells (splice cs7 0 cs7) 28 true false)).put (H.next + 1) (.cells [.int .i64 ((bs.length - r.length + size : Nat) : Int)] 3 true false)).put (H.next + 2) (.cells [.int .i64 0] 32 true false)) = H9
          have x1 : H9.get H.next = some (.cells (splice cs7 0 cs7) 28 true false) := by rw [← hH9, get_put_other (by omega)]; exact G9.gc
          have x2 : H9.get (H.next + 1) = some (.cells [.int .i64 ((bs.length - r.length + size : Nat) : Int)] 3 true false) := by rw [← hH9, get_put_other (by omega)]; exact G9.gn
          have x3 : H9.get (H.next + 2) = some (.cells [.int .i64 0] 32 true false) := by rw [← hH9]; exact get_put_self
          have x4 : Ext H H9 none' := by rw [← hH9]; exact G9.ext.put _ (fun h => by omega)
          have x5 : Ext Hc H9 (fun i => i < H.next + 4) := by
            rw [← hH9]
            exact (((Ext.refl Hc (fun i => i < H.next + 4)).put _ (fun _ => by show H.next < H.next + 4; omega)).put _ (fun _ => by show H.next + 1 < H.next + 4; omega)).put _ (fun _ => by show H.next + 2 < H.next + 4; omega)
          have x6 := S6.nx
          have x7 := S7.cmd.ext x5 (fun i hi h => Nat.lt_irrefl _ (Nat.lt_of_lt_of_le h (Nat.le_trans x6 hi)))
          have x8 : CmdF H9 H.next c7 cs7 := ⟨x7.1, x7.2.1, fun x hx i hi => Nat.le_trans (Nat.le_trans (Nat.le_add_right _ _) x6) (x7.2.2 x hx i hi)⟩
          exact WP.ret rfl (fun E e1 e2 e3 => get1_ok (cb := H.next) (nb := H.next + 1) (eb := H.next + 2) (cs := splice cs7 0 cs7) (n := ((bs.length - r.length + size : Nat) : Int)) (e := 0) rfl rfl x1 G8.cl x2 x3 (e3 2 _ rfl) (e3 3 _ rfl) (e3 4 _ rfl) ⟨x4, .inl ⟨c7, _, cs7, hget, by rw [hspl], x8⟩⟩)
end Go.Proofs.Ythakgknamfopcaa
