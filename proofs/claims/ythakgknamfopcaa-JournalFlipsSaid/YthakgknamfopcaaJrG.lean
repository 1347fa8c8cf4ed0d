/- Walks of the statements' own functions: the journal of some commands. -/
import Derived.Test.YthakgknamfopcaaJrF
import Derived.KernelRfl
import Derived.Test.YthakgknamfopcaaLvLay
namespace Go.Proofs.Ythakgknamfopcaa
open Go Go.Lv
set_option linter.unusedVariables false
set_option maxRecDepth 100000

theorem lbin_neq_bool {x y : Operand} {a b : Bool} : lbin Try.prog .neq 4 x y (.bool a) (.bool b) = some (.bool (!(a == b))) := by
  simp only [lbin, guardOk, leq, TUnd.out (P := Try.prog) (t := 4)]
  rfl
theorem OE.append {H : LH} {v x : LV} {n m : Nat} {ls xs : List LV} (h : Lv.Own H 1 3 v n ls) (hx : SV H 1 x m xs) (hone : xs.all oneCell = true) (hl : n + m ≤ 100000000000) :
    ∃ v' H', builtinL Try.prog H .append [38, 38] [v, x] = some (.val v' H') ∧ Lv.Own H' 1 3 v' (n + m) (ls ++ xs) ∧ Ext H H' (fun i => v.bid? = some i) ∧ (∀ i, v'.bid? = some i → v.bid? = some i ∨ H.next ≤ i) := by
  exact Lv.Own.append (P := Try.prog) (t := 38) (t' := 38) (sz := 1) (e := 3) (by omega) (by omega) rfl h hx hone (by unfold growMax; omega)

/-- Those that are valid. -/
def kept (cl : List LCmd) : List LCmd := cl.filter fun c => checkC c == 0
def jof (cl : List LCmd) : Jr := (kept cl).foldl Jr.push ⟨[], []⟩
theorem kept_take {cl : List LCmd} {i : Nat} (h : i < cl.length) : kept (cl.take (i + 1)) = kept (cl.take i) ++ (if checkC cl[i] = 0 then [cl[i]] else []) := by
  unfold kept
  rw [List.take_succ_eq_append_getElem h, List.filter_append]
  congr 1
  by_cases hz : checkC cl[i] = 0
  · simp [hz]
  · simp [hz]
theorem jof_take {cl : List LCmd} {i : Nat} (h : i < cl.length) : jof (cl.take (i + 1)) = if checkC cl[i] = 0 then (jof (cl.take i)).push cl[i] else jof (cl.take i) := by
  unfold jof
  rw [kept_take h, List.foldl_append]
  split <;> rfl
theorem jof_good : ∀ (cl : List LCmd), (∀ c ∈ cl, c.Ok) → (jof cl).Good := by
  intro cl hok
  unfold jof
  have key : ∀ (l : List LCmd) (j : Jr), j.Good → (∀ c ∈ l, c.Ok ∧ checkC c = 0) → (l.foldl Jr.push j).Good := by
    intro l
    induction l with
    | nil => intro j h _; exact h
    | cons c l ih => intro j h hl; exact ih _ (h.push (hl c List.mem_cons_self).1 (hl c List.mem_cons_self).2) (fun d hd => hl d (List.mem_cons_of_mem _ hd))
  refine key _ _ Jr.good_nil (fun c hc => ?_)
  have := List.mem_filter.1 hc
  exact ⟨hok c this.1, by simpa using this.2⟩
theorem jof_cmds (cl : List LCmd) : (jof cl).rs.map (·.c) = kept cl := by
  unfold jof
  have key : ∀ (l : List LCmd) (j : Jr), (l.foldl Jr.push j).rs.map (·.c) = j.rs.map (·.c) ++ l := by
    intro l
    induction l with
    | nil => intro j; simp
    | cons c l ih => intro j; simp only [List.foldl_cons]; rw [ih]; simp [Jr.push]
  rw [key]; rfl
theorem jof_len (cl : List LCmd) (hok : ∀ c ∈ cl, c.Ok) : (jof cl).b.length ≤ 1000014 * cl.length := by
  unfold jof
  have key : ∀ (l : List LCmd) (j : Jr), (∀ c ∈ l, c.Ok ∧ checkC c = 0) → (l.foldl Jr.push j).b.length ≤ j.b.length + 1000014 * l.length := by
    intro l
    induction l with
    | nil => intro j _; simp
    | cons c l ih =>
      intro j hl
      have h1 := ih (j.push c) (fun d hd => hl d (List.mem_cons_of_mem _ hd))
      have h2 := hl c List.mem_cons_self
      have h3 := putC_len h2.1 h2.2
      simp only [List.foldl_cons, List.length_cons]
      have h4 : (j.push c).b.length = j.b.length + ((putC c).length + 4) := by simp [Jr.push, recB_len]
      omega
  have h1 := key (kept cl) ⟨[], []⟩ (fun c hc => by
    have := List.mem_filter.1 hc
    exact ⟨hok c this.1, by simpa using this.2⟩)
  have h2 : (kept cl).length ≤ cl.length := List.length_filter_le _ _
  have h3 : 1000014 * (kept cl).length ≤ 1000014 * cl.length := Nat.mul_le_mul_left _ h2
  simp only [List.length_nil, Nat.zero_add] at h1
  omega
theorem jof_rs_len (cl : List LCmd) : (jof cl).rs.length = (kept cl).length := by rw [← jof_cmds, List.length_map]
def ends (cl : List LCmd) : List LV := (jof cl).rs.map fun r => .int .i64 (r.fin : Int)

theorem appq (H : LH) (b : LV) (j : Jr) (hj : j.Good) (hb : BV H b j.b) (hbl : j.b.length < 2 ^ 35) (c : LCmd) (hc : c.Ok) (cs : List LV) (hcs : CmdC H c cs) : CallP Try.prog 10 [b, .agg cs] H (fun o H' => Ext H H' none' ∧ ∃ (v : LV) (e : Int), o = .ret (.tuple [v, .int .i64 e]) ∧
    ((checkC c ≠ 0 ∧ e = checkC c) ∨ (checkC c = 0 ∧ e = 0 ∧ BV H' v (j.push c).b ∧ ∀ i, v.bid? = some i → H.next ≤ i))) := by
  refine (append H b j.b hb hbl c hc cs hcs).mono ?_
  rintro o H' ⟨hE, ⟨h, rfl⟩ | ⟨_, h, _⟩ | ⟨h, _, v, rfl, h1, h2⟩⟩
  · exact ⟨hE, _, _, rfl, .inl ⟨h, rfl⟩⟩
  · rw [hj.recs] at h; exact absurd hj.fin h
  · rw [hj.recs] at h1
    exact ⟨hE, v, 0, rfl, .inr ⟨h, rfl, h1.bv, h2⟩⟩

/-- What journaled keeps. -/
structure JSt (H H' : LH) (cl : List LCmd) (vb vk ve : LV) (lk : List LV) : Prop where
  ext : Ext H H' none'
  b : BV H' vb (jof cl).b
  k : Lv.Own H' 7 28 vk (kept cl).length lk
  kc : CmdsC H' (kept cl) lk
  e : Lv.Own H' 1 3 ve (kept cl).length (ends cl)
  bf : ∀ i, vb.bid? = some i → vk.bid? ≠ some i ∧ ve.bid? ≠ some i
  kf : ∀ i, vk.bid? = some i → H.next ≤ i ∧ ve.bid? ≠ some i
  ef : ∀ i, ve.bid? = some i → H.next ≤ i
  lf : ∀ x ∈ lk, ∀ i, x.bid? = some i → i < H.next

theorem JSt.ext2 {H H' H'' : LH} {cl : List LCmd} {vb vk ve : LV} {lk : List LV} (S : JSt H H' cl vb vk ve lk) (hE : Ext H' H'' none') : JSt H H'' cl vb vk ve lk :=
  ⟨S.ext.trans hE (fun i _ h => h), S.b.ext hE (fun i _ h => h), S.k.ext hE (fun i _ h => h), S.kc.ext hE (fun _ _ _ _ h => h), S.e.ext hE (fun i _ h => h), S.bf, S.kf, S.ef, S.lf⟩

set_option maxHeartbeats 16000000 in
theorem journaled (H : LH) (a : LV) (cl : List LCmd) (la : List LV) (ha : CV H a cl la) (hla : ∀ x ∈ la, ∀ i, x.bid? = some i → i < H.next) (hok : ∀ c ∈ cl, c.Ok) (hl : cl.length ≤ 1000) :
    CallP Try.prog 15 [a] H (fun o H' => ∃ vb vk ve lk, o = .ret (.tuple [vb, vk, ve]) ∧ JSt H H' cl vb vk ve lk) := by
  refine en15 (by simp) ?_
  unfold c15
  refine WP.seq ?_
  refine WP.region rfl ?_
  refine WS.val rfl (LK.assign rfl) ?_
  refine WS.val rfl (LK.assign rfl) ?_
  refine WS.val rfl (LK.assign rfl) ?_
  refine WS.nil ?_
  refine WP.seq ?_
  refine WP.region rfl ?_
  refine WS.val rfl (LK.assign rfl) ?_
  refine WS.nil ?_
  refine WP.seq ?_
  refine WP.region rfl ?_
  refine WS.val rfl (LK.assign rfl) ?_
  refine WS.nil ?_
  refine WP.seq ?_
  refine WP.region rfl ?_
  refine WS.val rfl (LK.assign rfl) ?_
  refine WS.nil ?_
  refine WP.seq ?_
  refine WP.seq ?_
  refine WP.region rfl ?_
  refine WS.val rfl (LK.assign rfl) ?_
  refine WS.nil ?_
  refine WP.block ?_
  refine WP.loop ?_
  skip
  refine WP.sub (gs := [(0, a), (5, .slice none 0 (.ex 0)), (6, .slice none 0 (.ex 0)), (7, .slice none 0 (.ex 0)), (8, .int .i64 ((0 : Nat) : Int))]) ?_ ⟨rfl, rfl, rfl, rfl, rfl, trivial⟩
  have S0 : JSt H H [] (.slice none 0 (.ex 0)) (.slice none 0 (.ex 0)) (.slice none 0 (.ex 0)) [] :=
    ⟨Ext.refl _ _, SV.nil _ _, Own.nil _ _ _, rfl, Own.nil _ _ _, fun i h => (by cases h), fun i h => (by cases h), fun i h => (by cases h), fun x h => (by cases h)⟩
  refine WP.inv (fun n g H' => ∃ (i : Nat) (vb vk ve : LV) (lk : List LV), n = cl.length - i ∧ i ≤ cl.length ∧ g = [(0, a), (5, vb), (6, vk), (7, ve), (8, .int .i64 (i : Int))] ∧ JSt H H' (cl.take i) vb vk ve lk) (n := cl.length) ⟨0, _, _, _, [], rfl, Nat.zero_le _, rfl, by simpa using S0⟩ ?_
  rintro n g H' ⟨i, vb, vk, ve, lk, rfl, hi, rfl, S⟩ ih
  have ha' := ha.ext S.ext (fun i _ h => h) (fun _ _ _ _ h => h)
  by_cases hlt : i < cl.length
  · obtain ⟨i1, o1, c1, cs1, e1, w1, p1, hv1, hi1, g1, l1, k1, m1⟩ := ha'.at hlt
    have hk1 : IntKind.i64.wrap ((i : Int) + 1) = ((i + 1 : Nat) : Int) := by rw [wrap_i64 (by omega) (by omega)]; rfl
    have hokt : ∀ c ∈ cl.take i, c.Ok := fun c hc => hok c (List.mem_of_mem_take hc)
    have hoki := hok _ (List.getElem_mem hlt)
    have hjl := jof_len (cl.take i) hokt
    rw [List.length_take, Nat.min_eq_left hi] at hjl
    have hgood := jof_good (cl.take i) hokt
    have hcall := appq H' vb (jof (cl.take i)) hgood S.b (by omega) cl[i] hoki _ m1
    have hxfar : ∀ x ∈ (la.drop (i * 7)).take 7, ∀ j, x.bid? = some j → j < H.next := fun x hx => hla x (List.mem_of_mem_drop (List.mem_of_mem_take hx))
    generalize hX : (la.drop (i * 7)).take 7 = X at *
    obtain ⟨d, b, rfl, hd, hb⟩ := id m1
    have hone7 := cmd_one m1
    have hSk := S.k
    have hSe := S.e
    refine WP.seq ?_
    refine WP.seq ?_
    refine WP.region rfl ?_
    refine WS.val rfl (LK.move rfl) ?_
    refine WS.val rfl (LK.move rfl) ?_
    refine WS.val rfl (SV.len ha'.1 rfl) ?_
    refine WS.val rfl (LK.lss rfl rfl) ?_
    refine WS.nil ?_
    refine WP.cond rfl (fun h14 => ?_) (fun h14 => ?_)
    rotate_left
    · first | (exfalso; have := of_decide_eq_false h14; omega) | (exfalso; rw [he] at h14; simp at h14; done)
    refine WP.skip ?_
    refine WP.seq ?_
    refine WP.block ?_
    refine WP.seq ?_
    refine WP.region rfl ?_
    refine WS.val rfl (LK.move rfl) ?_
    refine WS.val rfl (LK.move rfl) ?_
    refine WS.val rfl (LK.move rfl) ?_
    refine WS.val rfl (LK.indexAddr (congrArg some hv1) rfl natOf_cast hlt) ?_
    refine WS.val rfl (LK.load_agg (xs := cells7 cl[i].op cl[i].u cl[i].v cl[i].w cl[i].t d b) rfl g1 l1 k1) ?_
    (refine WS.call rfl (LK.call rfl) (CallP.mono (hcall) ?_); rintro _ Hc ⟨hE, v, e, rfl, hva⟩)
    refine WS.val rfl (LK.move rfl) ?_
    refine WS.val rfl (LK.extract rfl rfl) ?_
    refine WS.val rfl (LK.extract rfl rfl) ?_
    refine WS.val rfl (LK.assign rfl) ?_
    refine WS.val rfl (LK.assign rfl) ?_
    refine WS.nil ?_
    refine WP.seq ?_
    refine WP.seq ?_
    have he : (e == 0) = (checkC cl[i] == 0) := by
      rcases hva with ⟨h1, rfl⟩ | ⟨h1, rfl, _⟩
      · rfl
      · rw [h1]
    have g1' := hE.get hi1 (fun h => h) g1
    have m1' := m1.ext hE (fun _ _ _ _ h => h)
    refine WP.region rfl ?_
    refine WS.val rfl (LK.move rfl) ?_
    refine WS.val rfl (LK.eql rfl rfl) ?_
    refine WS.val rfl (LK.move rfl) ?_
    refine WS.val rfl (LK.move rfl) ?_
    refine WS.val rfl (LK.indexAddr (congrArg some hv1) rfl natOf_cast hlt) ?_
    refine WS.val rfl (LK.load_agg (xs := cells7 cl[i].op cl[i].u cl[i].v cl[i].w cl[i].t d b) rfl g1' l1 k1) ?_
    (refine WS.call rfl (LK.call rfl) (CallP.mono (check Hc cl[i] _ m1') ?_); rintro _ Hd ⟨rfl, hE2⟩)
    refine WS.val rfl (LK.eql rfl rfl) ?_
    refine WS.val rfl (LK.bin rfl rfl lbin_neq_bool) ?_
    refine WS.nil ?_
    refine WP.cond rfl (fun h34 => ?_) (fun h34 => ?_)
    · first | (exfalso; have := of_decide_eq_false h34; omega) | (exfalso; rw [he] at h34; simp at h34; done)
    refine WP.skip ?_
    refine WP.seq ?_
    refine WP.region rfl ?_
    refine WS.val rfl (LK.move rfl) ?_
    refine WS.val rfl (LK.eql rfl rfl) ?_
    refine WS.nil ?_
    refine WP.cond rfl (fun h36 => ?_) (fun h36 => ?_)
    · skip
      refine WP.seq ?_
      refine WP.region rfl ?_
      refine WS.val rfl (LK.move rfl) ?_
      refine WS.val rfl (LK.assign rfl) ?_
      refine WS.nil ?_
      refine WP.seq ?_
      have hz : checkC cl[i] = 0 := by
        have h := h36
        rw [he] at h
        simpa using h
      obtain ⟨hbv, hbf⟩ : BV Hc v ((jof (cl.take i)).push cl[i]).b ∧ ∀ i, v.bid? = some i → H'.next ≤ i := by
        rcases hva with ⟨h1, _⟩ | ⟨_, _, h⟩
        · exact absurd hz h1
        · exact h
      have g1'' := hE2.get (Nat.lt_of_lt_of_le hi1 hE.next) (fun h => h) g1'
      have hEd : Ext H' Hd none' := hE.trans hE2 (fun i _ h => h)
      have nd := hEd.next
      have S2 := S.ext2 hEd
      have hfill : fillL (fun i => some (i * 7, 7)) (zerosL 1 (LV.agg zero7).cells) [(0, .agg (cells7 cl[i].op cl[i].u cl[i].v cl[i].w cl[i].t d b))] = some (cells7 cl[i].op cl[i].u cl[i].v cl[i].w cl[i].t d b) := rfl
      have hS3 : SV (Hd.new (.cells (cells7 cl[i].op cl[i].u cl[i].v cl[i].w cl[i].t d b) 28 true false)) 7 (.slice (some (Hd.next, 0)) 1 (.ex 1)) 1 (cells7 cl[i].op cl[i].u cl[i].v cl[i].w cl[i].t d b) := SV.new (n := 1) (sz := 7) (cs := cells7 cl[i].op cl[i].u cl[i].v cl[i].w cl[i].t d b) (Nat.le_refl _) (by simp [cells7])
      have hkl : (kept (cl.take i)).length ≤ 1000 := by
        have := List.length_filter_le (fun c => checkC c == 0) (cl.take i)
        rw [List.length_take] at this
        show ((cl.take i).filter fun c => checkC c == 0).length ≤ 1000
        omega
      obtain ⟨v6, H6, hap, hO6, hE6, hv6⟩ := OC.append (S2.k.new (.cells (cells7 cl[i].op cl[i].u cl[i].v cl[i].w cl[i].t d b) 28 true false)) hS3 hone7 (by omega)
      have n6 := hE6.next
      rw [LH.next_new] at n6
      have hd6 : Ext Hd H6 (fun i => vk.bid? = some i) := ((Ext.refl Hd (fun i => vk.bid? = some i)).new _).trans hE6 (fun i _ h => h)
      have hklt : ∀ i, vk.bid? = some i → i < H'.next := fun i h => hSk.lt h
      have helt : ∀ i, ve.bid? = some i → i < H'.next := fun i h => hSe.lt h
      have hbv6 := (hbv.ext hE2 (fun i _ h => h)).ext hd6 (fun i hi h => by have := hbf i hi; have := hklt i h; omega)
      have hve6 := S2.e.ext hd6 (fun i hi h => (S.kf i h).2 hi)
      have hO7 := hve6.new (.cells [.int .i64 (((jof (cl.take i)).push cl[i]).b.length : Int)] 3 true false)
      have hS7 : SV (H6.new (.cells [.int .i64 (((jof (cl.take i)).push cl[i]).b.length : Int)] 3 true false)) 1 (.slice (some (H6.next, 0)) 1 (.ex 1)) 1 [.int .i64 (((jof (cl.take i)).push cl[i]).b.length : Int)] := SV.new (n := 1) (sz := 1) (cs := [.int .i64 (((jof (cl.take i)).push cl[i]).b.length : Int)]) (Nat.le_refl _) (by simp)
      obtain ⟨v8, H8, hap8, hO8, hE8, hv8⟩ := OE.append hO7 hS7 rfl (by omega)
      have n8 := hE8.next
      rw [LH.next_new] at n8
      have hd8 : Ext H6 H8 (fun i => ve.bid? = some i) := ((Ext.refl H6 (fun i => ve.bid? = some i)).new _).trans hE8 (fun i _ h => h)
      refine WP.region rfl ?_
      refine WS.val rfl (LK.move rfl) ?_
      refine WS.val rfl (LK.move rfl) ?_
      refine WS.val rfl (LK.move rfl) ?_
      refine WS.val rfl (LK.indexAddr (congrArg some hv1) rfl natOf_cast hlt) ?_
      refine WS.val rfl (LK.load_agg (xs := cells7 cl[i].op cl[i].u cl[i].v cl[i].w cl[i].t d b) rfl g1'' l1 k1) ?_
      refine WS.val rfl (LK.buildSlice rfl (by decide) hfill) ?_
      refine WS.val rfl (LK.builtin rfl hap) ?_
      refine WS.val rfl (LK.assign rfl) ?_
      refine WS.nil ?_
      refine WP.region rfl ?_
      refine WS.val rfl (LK.move rfl) ?_
      refine WS.val rfl (LK.move rfl) ?_
      refine WS.val rfl (SV.len hbv6 rfl) ?_
      refine WS.val rfl (LK.buildSlice rfl rfl rfl) ?_
      refine WS.val rfl (LK.builtin rfl hap8) ?_
      refine WS.val rfl (LK.assign rfl) ?_
      refine WS.nil ?_
      refine WP.inBlock ?_
      refine WP.region rfl ?_
      refine WS.val rfl (LK.move rfl) ?_
      refine WS.val rfl (LK.add_to rfl rfl hk1) ?_
      refine WS.val rfl (LK.assign rfl) ?_
      refine WS.nil ?_
      first
        | (have hz : checkC cl[i] ≠ 0 := by
             have h := h36
             rw [he] at h
             simpa using h
           have e1 : kept (cl.take (i + 1)) = kept (cl.take i) := by rw [kept_take hlt, if_neg hz, List.append_nil]
           have e2 : jof (cl.take (i + 1)) = jof (cl.take i) := by rw [jof_take hlt, if_neg hz]
           have S2 := S.ext2 (hE.trans hE2 (fun i _ h => h))
           have S8 : JSt H Hd (cl.take (i + 1)) vb vk ve lk := by
             refine ⟨S2.ext, by rw [e2]; exact S2.b, by rw [e1]; exact S2.k, by rw [e1]; exact S2.kc, ?_, S2.bf, S2.kf, S2.ef, S2.lf⟩
             have : ends (cl.take (i + 1)) = ends (cl.take i) := by unfold ends; rw [e2]
             rw [this, e1]; exact S2.e
           exact WP.sub (gs := [(0, _), (5, vb), (6, vk), (7, ve), (8, .int .i64 ((i + 1 : Nat) : Int))]) (ih (cl.length - (i + 1)) _ _ (by omega) ⟨i + 1, vb, vk, ve, lk, rfl, by omega, rfl, S8⟩) ⟨rfl, rfl, rfl, rfl, rfl, trivial⟩)
        | (have e1 : kept (cl.take (i + 1)) = kept (cl.take i) ++ [cl[i]] := by rw [kept_take hlt, if_pos hz]
           have e2 : jof (cl.take (i + 1)) = (jof (cl.take i)).push cl[i] := by rw [jof_take hlt, if_pos hz]
           have S8 : JSt H H8 (cl.take (i + 1)) v v6 v8 (lk ++ cells7 cl[i].op cl[i].u cl[i].v cl[i].w cl[i].t d b) := by
             have hHn := S.ext.next
             refine ⟨?_, ?_, ?_, ?_, ?_, fun j hj => ⟨fun h => ?_, fun h => ?_⟩, fun j hj => ⟨?_, fun h => ?_⟩, fun j hj => ?_, fun x hx j hj => ?_⟩
             · exact ((S.ext.trans hEd (fun i _ h => h)).trans hd6 (fun j hj h => by have := (S.kf j h).1; omega)).trans hd8 (fun j hj h => by have := S.ef j h; omega)
             · rw [e2]
               exact hbv6.ext hd8 (fun j hj h => by have := hbf j hj; have := helt j h; omega)
             · rw [e1, List.length_append]
               exact hO6.ext hd8 (fun j hj h => by
                 rcases hv6 j hj with h1 | h1
                 · exact (S.kf j h1).2 h
                 · have := helt j h; simp at h1; omega)
             · rw [e1]
               exact CmdsC.snoc (((m1'.ext hE2 (fun _ _ _ _ h => h)).ext hd6 (fun x hx j hj h => by have := hxfar x hx j hj; have := (S.kf j h).1; omega)).ext hd8 (fun x hx j hj h => by have := hxfar x hx j hj; have := S.ef j h; omega))
                 ((S2.kc.ext hd6 (fun x hx j hj h => by have := S.lf x hx j hj; have := (S.kf j h).1; omega)).ext hd8 (fun x hx j hj h => by have := S.lf x hx j hj; have := S.ef j h; omega))
             · have : ends (cl.take (i + 1)) = ends (cl.take i) ++ [.int .i64 (((jof (cl.take i)).push cl[i]).b.length : Int)] := by
                 unfold ends
                 rw [e2]
                 simp [Jr.push]
               rw [this, e1, List.length_append]
               exact hO8
             · rcases hv6 j h with h1 | h1
               · have := hbf j hj; have := hklt j h1; omega
               · have := hbv.lt hj; simp at h1; have := hE2.next; omega
             · rcases hv8 j h with h1 | h1
               · have := hbf j hj; have := helt j h1; omega
               · have := hbv.lt hj; simp at h1; have := hE2.next; omega
             · rcases hv6 j hj with h1 | h1
               · exact (S.kf j h1).1
               · simp at h1; omega
             · rcases hv6 j hj with h1 | h1
               · rcases hv8 j h with h2 | h2
                 · exact (S.kf j h1).2 h2
                 · have := hklt j h1; simp at h2; omega
               · rcases hv8 j h with h2 | h2
                 · have := helt j h2; simp at h1; omega
                 · have := hO6.lt hj; simp at h2; omega
             · rcases hv8 j hj with h1 | h1
               · exact S.ef j h1
               · simp at h1; omega
             · rcases List.mem_append.1 hx with hx | hx
               · exact S.lf x hx j hj
               · exact hxfar x hx j hj
           exact WP.sub (gs := [(0, _), (5, v), (6, v6), (7, v8), (8, .int .i64 ((i + 1 : Nat) : Int))]) (ih (cl.length - (i + 1)) _ _ (by omega) ⟨i + 1, v, v6, v8, _, rfl, by omega, rfl, S8⟩) ⟨rfl, rfl, rfl, rfl, rfl, trivial⟩)
    refine WP.skip ?_
    refine WP.inBlock ?_
    refine WP.region rfl ?_
    refine WS.val rfl (LK.move rfl) ?_
    refine WS.val rfl (LK.add_to rfl rfl hk1) ?_
    refine WS.val rfl (LK.assign rfl) ?_
    refine WS.nil ?_
    first
      | (have hz : checkC cl[i] ≠ 0 := by
           have h := h36
           rw [he] at h
           simpa using h
         have e1 : kept (cl.take (i + 1)) = kept (cl.take i) := by rw [kept_take hlt, if_neg hz, List.append_nil]
         have e2 : jof (cl.take (i + 1)) = jof (cl.take i) := by rw [jof_take hlt, if_neg hz]
         have S2 := S.ext2 (hE.trans hE2 (fun i _ h => h))
         have S8 : JSt H Hd (cl.take (i + 1)) vb vk ve lk := by
           refine ⟨S2.ext, by rw [e2]; exact S2.b, by rw [e1]; exact S2.k, by rw [e1]; exact S2.kc, ?_, S2.bf, S2.kf, S2.ef, S2.lf⟩
           have : ends (cl.take (i + 1)) = ends (cl.take i) := by unfold ends; rw [e2]
           rw [this, e1]; exact S2.e
         exact WP.sub (gs := [(0, _), (5, vb), (6, vk), (7, ve), (8, .int .i64 ((i + 1 : Nat) : Int))]) (ih (cl.length - (i + 1)) _ _ (by omega) ⟨i + 1, vb, vk, ve, lk, rfl, by omega, rfl, S8⟩) ⟨rfl, rfl, rfl, rfl, rfl, trivial⟩)
      | (have e1 : kept (cl.take (i + 1)) = kept (cl.take i) ++ [cl[i]] := by rw [kept_take hlt, if_pos hz]
         have e2 : jof (cl.take (i + 1)) = (jof (cl.take i)).push cl[i] := by rw [jof_take hlt, if_pos hz]
         have S8 : JSt H H8 (cl.take (i + 1)) v v6 v8 (lk ++ cells7 cl[i].op cl[i].u cl[i].v cl[i].w cl[i].t d b) := by
           have hHn := S.ext.next
           refine ⟨?_, ?_, ?_, ?_, ?_, fun j hj => ⟨fun h => ?_, fun h => ?_⟩, fun j hj => ⟨?_, fun h => ?_⟩, fun j hj => ?_, fun x hx j hj => ?_⟩
           · exact ((S.ext.trans hEd (fun i _ h => h)).trans hd6 (fun j hj h => by have := (S.kf j h).1; omega)).trans hd8 (fun j hj h => by have := S.ef j h; omega)
           · rw [e2]
             exact hbv6.ext hd8 (fun j hj h => by have := hbf j hj; have := helt j h; omega)
           · rw [e1, List.length_append]
             exact hO6.ext hd8 (fun j hj h => by
               rcases hv6 j hj with h1 | h1
               · exact (S.kf j h1).2 h
               · have := helt j h; simp at h1; omega)
           · rw [e1]
             exact CmdsC.snoc (((m1'.ext hE2 (fun _ _ _ _ h => h)).ext hd6 (fun x hx j hj h => by have := hxfar x hx j hj; have := (S.kf j h).1; omega)).ext hd8 (fun x hx j hj h => by have := hxfar x hx j hj; have := S.ef j h; omega))
               ((S2.kc.ext hd6 (fun x hx j hj h => by have := S.lf x hx j hj; have := (S.kf j h).1; omega)).ext hd8 (fun x hx j hj h => by have := S.lf x hx j hj; have := S.ef j h; omega))
           · have : ends (cl.take (i + 1)) = ends (cl.take i) ++ [.int .i64 (((jof (cl.take i)).push cl[i]).b.length : Int)] := by
               unfold ends
               rw [e2]
               simp [Jr.push]
             rw [this, e1, List.length_append]
             exact hO8
           · rcases hv6 j h with h1 | h1
             · have := hbf j hj; have := hklt j h1; omega
             · have := hbv.lt hj; simp at h1; have := hE2.next; omega
           · rcases hv8 j h with h1 | h1
             · have := hbf j hj; have := helt j h1; omega
             · have := hbv.lt hj; simp at h1; have := hE2.next; omega
           · rcases hv6 j hj with h1 | h1
             · exact (S.kf j h1).1
             · simp at h1; omega
           · rcases hv6 j hj with h1 | h1
             · rcases hv8 j h with h2 | h2
               · exact (S.kf j h1).2 h2
               · have := hklt j h1; simp at h2; omega
             · rcases hv8 j h with h2 | h2
               · have := helt j h2; simp at h1; omega
               · have := hO6.lt hj; simp at h2; omega
           · rcases hv8 j hj with h1 | h1
             · exact S.ef j h1
             · simp at h1; omega
           · rcases List.mem_append.1 hx with hx | hx
             · exact S.lf x hx j hj
             · exact hxfar x hx j hj
         exact WP.sub (gs := [(0, _), (5, v), (6, v6), (7, v8), (8, .int .i64 ((i + 1 : Nat) : Int))]) (ih (cl.length - (i + 1)) _ _ (by omega) ⟨i + 1, v, v6, v8, _, rfl, by omega, rfl, S8⟩) ⟨rfl, rfl, rfl, rfl, rfl, trivial⟩)
  · have hall : cl.take i = cl := List.take_of_length_le (by omega)
    rw [hall] at S
    refine WP.seq ?_
    refine WP.seq ?_
    refine WP.region rfl ?_
    refine WS.val rfl (LK.move rfl) ?_
    refine WS.val rfl (LK.move rfl) ?_
    refine WS.val rfl (SV.len ha'.1 rfl) ?_
    refine WS.val rfl (LK.lss rfl rfl) ?_
    refine WS.nil ?_
    refine WP.cond rfl (fun h14 => ?_) (fun h14 => ?_)
    · exfalso; have := of_decide_eq_true h14; omega
    refine WP.exit rfl ?_
    refine WP.seq ?_
    refine WP.region rfl ?_
    refine WS.val rfl (LK.move rfl) ?_
    refine WS.val rfl (LK.move rfl) ?_
    refine WS.val rfl (LK.move rfl) ?_
    refine WS.val rfl (LK.assign rfl) ?_
    refine WS.val rfl (LK.assign rfl) ?_
    refine WS.val rfl (LK.assign rfl) ?_
    refine WS.nil ?_
    refine WP.sub (gs := [(4, _), (3, _), (2, _)]) ?_ ⟨rfl, rfl, rfl, trivial⟩
    exact WP.ret rfl (Fin.ret' rfl rfl ⟨vb, vk, ve, lk, rfl, S⟩)
theorem worksK (H : LH) : CallP Try.prog 9 [] H (fun o H' => H' = H ∧ o = .ret (.bool true)) := CallP.known ⟨9, .bool true, []⟩ rfl rfl ⟨rfl, rfl⟩
theorem small_bound {c : LCmd} (h : Small c) : c.draws.length < 2 ^ 62 ∧ c.bounds.length < 2 ^ 62 := by have := h.1; have := h.2; constructor <;> omega
theorem kept_mem {cl : List LCmd} {c : LCmd} (h : c ∈ kept cl) : c ∈ cl := (List.mem_filter.1 h).1
theorem kept_le (cl : List LCmd) : (kept cl).length ≤ cl.length := List.length_filter_le _ _
theorem JSt.cv {H H' : LH} {cl : List LCmd} {vb vk ve : LV} {lk : List LV} (S : JSt H H' cl vb vk ve lk) : CV H' vk (kept cl) lk := ⟨S.k.sv, S.kc⟩

set_option maxHeartbeats 16000000 in
theorem backLaw (H : LH) (a : LV) (cl : List LCmd) (la : List LV) (ha : CV H a cl la) (hla : ∀ x ∈ la, ∀ i, x.bid? = some i → i < H.next) (hok : ∀ c ∈ cl, c.Ok) :
    CallP Try.prog 7 [a] H (fun o H' => o = .ret (.bool true)) := by
  refine en7 (by simp) ?_
  unfold c7
  refine WP.seq ?_
  refine WP.region rfl ?_
  refine WS.val rfl (LK.assign rfl) ?_
  refine WS.nil ?_
  refine WP.seq ?_
  refine WP.seq ?_
  refine WP.region rfl ?_
  refine WS.val rfl (LK.move rfl) ?_
  (refine WS.call rfl (LK.call rfl) (CallP.mono (few H a cl la ha 30 (by decide)) ?_); rintro _ Hf ⟨rfl, q, rfl, hq1⟩)
  refine WS.val rfl (LK.not rfl) ?_
  refine WS.nil ?_
  refine WP.sub (gs := [(10, _), (2, _), (0, _)]) ?_ ⟨rfl, rfl, rfl, trivial⟩
  refine WP.cond rfl (fun h10 => ?_) (fun h10 => ?_)
  · skip
    refine WP.seq ?_
    refine WP.region rfl ?_
    (refine WS.call rfl (LK.call rfl) (CallP.mono (worksK _) ?_); rintro _ Hc ⟨rfl, rfl⟩)
    refine WS.val rfl (LK.assign rfl) ?_
    refine WS.nil ?_
    refine WP.sub (gs := [(2, _), (0, _)]) ?_ ⟨rfl, rfl, trivial⟩
    exact WP.ret rfl (Fin.ret' rfl rfl (by first | rfl | (exfalso; simp at h33; done) | (exfalso; simp at h39; done)))
  refine WP.skip ?_
  refine WP.seq ?_
  have hq : q = true := by simpa using h10
  obtain ⟨hl30, hsm⟩ := hq1 hq
  have hjl := jof_len cl hok
  have hgood := jof_good cl hok
  have hrecs := hgood.recs
  have hkl := kept_le cl
  refine WP.region rfl ?_
  refine WS.val rfl (LK.move rfl) ?_
  (refine WS.call rfl (LK.call rfl) (CallP.mono (journaled Hf a cl la ha hla hok (by omega)) ?_); rintro _ Hj ⟨vb, vk, ve, lk, rfl, S⟩)
  refine WS.val rfl (LK.move rfl) ?_
  refine WS.val rfl (LK.extract rfl rfl) ?_
  refine WS.val rfl (LK.extract rfl rfl) ?_
  refine WS.val rfl (LK.extract rfl rfl) ?_
  refine WS.val rfl (LK.assign rfl) ?_
  refine WS.val rfl (LK.assign rfl) ?_
  refine WS.val rfl (LK.assign rfl) ?_
  refine WS.nil ?_
  refine WP.sub (gs := [(5, _), (4, _), (3, _), (2, _)]) ?_ ⟨rfl, rfl, rfl, rfl, trivial⟩
  refine WP.seq ?_
  have hread := read Hj vb (jof cl).b S.b (by omega)
  rw [hrecs, hgood.fin, jof_cmds, jof_rs_len] at hread
  refine WP.region rfl ?_
  refine WS.val rfl (LK.move rfl) ?_
  (refine WS.call rfl (LK.call rfl) (CallP.mono (hread) ?_); rintro _ Hr ⟨hE2, v, ls, rfl, hOv, hcv, _⟩)
  refine WS.val rfl (LK.move rfl) ?_
  refine WS.val rfl (LK.extract rfl rfl) ?_
  refine WS.val rfl (LK.extract rfl rfl) ?_
  refine WS.val rfl (LK.assign rfl) ?_
  refine WS.val rfl (LK.assign rfl) ?_
  refine WS.nil ?_
  refine WP.sub (gs := [(7, _), (6, _), (5, _), (4, _), (3, _), (2, _)]) ?_ ⟨rfl, rfl, rfl, rfl, rfl, rfl, trivial⟩
  refine WP.seq ?_
  have S2 := S.ext2 hE2
  have hcm : CV Hr v (kept cl) ls := ⟨hOv.sv, hcv⟩
  have hcmds := cmds Hr v vk (kept cl) ls lk hcm S2.cv (by omega) (fun c hc => small_bound (hsm c (kept_mem hc)))
  refine WP.region rfl ?_
  refine WS.val rfl (LK.move rfl) ?_
  refine WS.val rfl (LK.move rfl) ?_
  (refine WS.call rfl (LK.call rfl) (CallP.mono (hcmds) ?_); rintro _ Hc ⟨hE3, rfl⟩; (have S3 := S2.ext2 hE3); (have hrep := repair Hc vb (jof cl).b S3.b (by omega)); (rw [hrecs, hgood.fin, List.take_length] at hrep))
  refine WS.val rfl (LK.move rfl) ?_
  refine WS.val rfl (LK.move rfl) ?_
  all_goals (refine WS.val rfl (SV.len S3.e.sv rfl) ?_)
  all_goals (refine WS.val rfl (LK.move rfl) ?_)
  all_goals (refine WS.val rfl (SV.len S3.cv.1 rfl) ?_)
  all_goals (refine WS.val rfl (LK.eql rfl rfl) ?_)
  all_goals (refine WS.val rfl (LK.pick_t rfl rfl) ?_)
  all_goals (refine WS.val rfl (LK.move rfl) ?_)
  all_goals first | refine WS.val rfl (LK.move rfl) ?_ | refine WS.no rfl ?_ | (refine WS.guard rfl (fun h33 => ?_) (fun h33 => ?_) <;> first | refine WS.val rfl (LK.move rfl) ?_ | refine WS.no rfl ?_)
  all_goals first | refine WS.val rfl (LK.move rfl) ?_ | refine WS.no rfl ?_
  all_goals first | refine WS.val rfl (SV.len S3.b rfl) ?_ | refine WS.no rfl ?_
  all_goals first | refine WS.val rfl (LK.eql rfl rfl) ?_ | refine WS.no rfl ?_
  all_goals first | refine WS.val rfl (LK.pick_t rfl rfl) ?_ | refine WS.val rfl (LK.pick_f rfl rfl) ?_
  all_goals (refine WS.val rfl (LK.move rfl) ?_)
  all_goals first | refine WS.val rfl (LK.move rfl) ?_ | refine WS.no rfl ?_ | (refine WS.guard rfl (fun h39 => ?_) (fun h39 => ?_) <;> first | refine WS.val rfl (LK.move rfl) ?_ | refine WS.no rfl ?_)
  all_goals first | (refine WS.call rfl (LK.call rfl) (CallP.mono (hrep) ?_); rintro _ Hd ⟨hE4, w, rfl, hO4⟩; (have S4 := S3.ext2 hE4); (have hbytes := bytes Hd w vb (jof cl).b hO4.sv S4.b (by omega))) | refine WS.no rfl ?_
  all_goals first | refine WS.val rfl (LK.move rfl) ?_ | refine WS.no rfl ?_
  all_goals first | (refine WS.call rfl (LK.call rfl) (CallP.mono (hbytes) ?_); rintro _ Hc ⟨rfl, rfl⟩) | refine WS.no rfl ?_
  all_goals first | refine WS.val rfl (LK.pick_t rfl rfl) ?_ | refine WS.val rfl (LK.pick_f rfl rfl) ?_
  all_goals (refine WS.val rfl (LK.move rfl) ?_)
  all_goals first | (refine WS.call rfl (LK.call rfl) (CallP.mono (worksK _) ?_); rintro _ Hc ⟨rfl, rfl⟩) | refine WS.no rfl ?_
  all_goals first | refine WS.val rfl (LK.pick_t rfl rfl) ?_ | refine WS.val rfl (LK.pick_f rfl rfl) ?_
  all_goals (refine WS.val rfl (LK.assign rfl) ?_)
  all_goals
   refine WS.nil ?_
   refine WP.sub (gs := [(2, _)]) ?_ ⟨rfl, trivial⟩
   exact WP.ret rfl (Fin.ret' rfl rfl (by first | rfl | (exfalso; simp at h33; done) | (exfalso; simp at h39; done)))
theorem works_run : okB (run Try.prog 100000 (.call 9 [] (inH Try.prog [] []))) = true := by kernel_rfl
theorem prog_ok : progOk Try.prog = true := by kernel_rfl
theorem kn_ok : KnOk Try.prog Known.kn := KnOk.of_run prog_ok rfl rfl works_run

theorem calls_of {H : Type} {enc : TypeId × Value → H} {W : World} {f : Nat} {ts : List TypeId} {args : Array Value} {ds : List (DataW H)} {p : List MemPlace} {base : Nat} (hsup : (ts.all (sup Try.prog 5)) = true)
    (hv : ∀ (j : Nat) t v, ts[j]? = some t → args.toList[j]? = some v → Value.okWide Try.prog W .any base t v) (hA : DataW.TrodAll enc Try.prog W 0 (fun _ => true) true ts args.toList ds p)
    (hlaw : ∀ (Hp : LH) (ys : List LV), LArgs Try.prog Hp 5 ts ys → CallP Try.prog f ys Hp (fun o H' => o = .ret (.bool true))) : Calls Try.prog f args W fun e w' => e = .returned (.bool true) ∧ RowKit.Below W.heap.size W w' := by
  obtain ⟨bs', tr', ys, h1, h2, h3⟩ := lay_args (P := Try.prog) (gl := []) (fun i cs h => by cases h) hsup hv hA [] [] Cons.nil
  obtain ⟨o, H', ⟨n, hn⟩, rfl⟩ := hlaw _ _ h3
  exact lawK_in prog_ok kn_ok [] _ (by rw [hn]; rfl) rfl _ h1 h2 (fun i cs h => by cases h)

/-! ### commands -/
theorem und28 : ∃ fs, Try.prog.underlying 28 = some (.struct fs) ∧ fs.toList.map (·.type) = [23, 24, 24, 2, 2, 25, 26] := ⟨_, rfl, by kernel_rfl⟩
theorem cells_of_t : Try.prog.cellsOf 24 = 1 ∧ Try.prog.cellsOf 2 = 1 ∧ Try.prog.cellsOf 28 = 7 ∧ Try.prog.cellsOf 5 = 1 := ⟨by kernel_rfl, by kernel_rfl, by kernel_rfl, by kernel_rfl⟩
section
variable {Hp : LH} {f : Nat}
theorem lok_i64 {t : Nat} [hu : TUnd Try.prog t (.int .i64)] {ls : List LV} (h : LOk Try.prog Hp (f + 1) t ls) : ∃ x, ls = [.int .i64 x] ∧ In64 x := by
  unfold LOk at h
  rw [hu.out] at h
  obtain ⟨n, h1, h2⟩ := h
  simp only [Lit.wf, Bool.and_eq_true, decide_eq_true_eq] at h2
  refine ⟨n, h1, ?_, ?_⟩
  · have : IntKind.i64.min = -9223372036854775808 := by decide
    omega
  · have : IntKind.i64.max = 9223372036854775807 := by decide
    omega
theorem lok_u64 {t : Nat} [hu : TUnd Try.prog t (.int .u64)] {ls : List LV} (h : LOk Try.prog Hp (f + 1) t ls) : ∃ x : Nat, ls = [.int .u64 (x : Int)] ∧ x < 2 ^ 64 := by
  unfold LOk at h
  rw [hu.out] at h
  obtain ⟨n, h1, h2⟩ := h
  simp only [Lit.wf, Bool.and_eq_true, decide_eq_true_eq] at h2
  have e1 : IntKind.u64.min = 0 := by decide
  have e2 : IntKind.u64.max = 18446744073709551615 := by decide
  exact ⟨n.toNat, by rw [h1]; congr 2; omega, by omega⟩
theorem flat_u64 : ∀ {lss : List (List LV)}, (∀ l ∈ lss, ∃ x : Nat, l = [.int .u64 (x : Int)] ∧ x < 2 ^ 64) → ∃ ds : List Nat, lss.flatten = u64L ds ∧ ds.length = lss.length ∧ ∀ x ∈ ds, x < 2 ^ 64
  | [], _ => ⟨[], rfl, rfl, fun x h => by cases h⟩
  | l :: lss, h => by
    obtain ⟨x, rfl, hx⟩ := h l List.mem_cons_self
    obtain ⟨ds, h1, h2, h3⟩ := flat_u64 (lss := lss) (fun l hl => h l (List.mem_cons_of_mem _ hl))
    refine ⟨x :: ds, by rw [List.flatten_cons, h1]; rfl, by rw [List.length_cons, List.length_cons, h2], fun y hy => ?_⟩
    rcases List.mem_cons.1 hy with rfl | hy
    · exact hx
    · exact h3 y hy
theorem flat_i64 : ∀ {lss : List (List LV)}, (∀ l ∈ lss, ∃ x, l = [.int .i64 x] ∧ In64 x) → ∃ ds : List Int, lss.flatten = i64L ds ∧ ds.length = lss.length ∧ ∀ x ∈ ds, In64 x
  | [], _ => ⟨[], rfl, rfl, fun x h => by cases h⟩
  | l :: lss, h => by
    obtain ⟨x, rfl, hx⟩ := h l List.mem_cons_self
    obtain ⟨ds, h1, h2, h3⟩ := flat_i64 (lss := lss) (fun l hl => h l (List.mem_cons_of_mem _ hl))
    refine ⟨x :: ds, by rw [List.flatten_cons, h1]; rfl, by rw [List.length_cons, List.length_cons, h2], fun y hy => ?_⟩
    rcases List.mem_cons.1 hy with rfl | hy
    · exact hx
    · exact h3 y hy
/-- A slice of numbers. -/
theorem lok_u64s {ls : List LV} (h : LOk Try.prog Hp (f + 2) 25 ls) : ∃ d ds, ls = [d] ∧ SV Hp 1 d ds.length (u64L ds) ∧ (∀ x ∈ ds, x < 2 ^ 64) ∧ ∀ i, d.bid? = some i → i < Hp.next := by
  unfold LOk at h
  rw [TUnd.out (P := Try.prog) (t := 25)] at h
  rcases h with rfl | rfl | ⟨i, len, cap, xs, el, lss, rfl, h1, h2, h3, h4, h5, h6, rfl, h8, h9⟩
  · exact ⟨_, [], rfl, SV.nil _ _, fun x h => (nomatch h), fun i h => by cases h⟩
  · exact ⟨_, [], rfl, .inl ⟨rfl, rfl, .inr rfl⟩, fun x h => (nomatch h), fun i h => by cases h⟩
  · obtain ⟨ds, g1, g2, g3⟩ := flat_u64 (lss := lss) (fun l hl => lok_u64 (h9 l hl).2)
    have hl : ds.length = len := by omega
    subst hl
    refine ⟨_, ds, rfl, .inr ⟨i, 0, _, _, _, _, _, rfl, h5, h6, h2, ?_, ?_⟩, g3, fun j hj => by simp [LV.bid?] at hj; omega⟩
    · rw [g1]; simp [u64L]
    · rw [g1, List.drop_zero, List.take_of_length_le (by simp [u64L])]
theorem lok_i64s {ls : List LV} (h : LOk Try.prog Hp (f + 2) 26 ls) : ∃ d ds, ls = [d] ∧ SV Hp 1 d ds.length (i64L ds) ∧ (∀ x ∈ ds, In64 x) ∧ ∀ i, d.bid? = some i → i < Hp.next := by
  unfold LOk at h
  rw [TUnd.out (P := Try.prog) (t := 26)] at h
  rcases h with rfl | rfl | ⟨i, len, cap, xs, el, lss, rfl, h1, h2, h3, h4, h5, h6, rfl, h8, h9⟩
  · exact ⟨_, [], rfl, SV.nil _ _, fun x h => (nomatch h), fun i h => by cases h⟩
  · exact ⟨_, [], rfl, .inl ⟨rfl, rfl, .inr rfl⟩, fun x h => (nomatch h), fun i h => by cases h⟩
  · obtain ⟨ds, g1, g2, g3⟩ := flat_i64 (lss := lss) (fun l hl => lok_i64 (h9 l hl).2)
    have hl : ds.length = len := by omega
    subst hl
    refine ⟨_, ds, rfl, .inr ⟨i, 0, _, _, _, _, _, rfl, h5, h6, h2, ?_, ?_⟩, g3, fun j hj => by simp [LV.bid?] at hj; omega⟩
    · rw [g1]; simp [i64L]
    · rw [g1, List.drop_zero, List.take_of_length_le (by simp [i64L])]
theorem all2_cons {α β : Type} {R : α → β → Prop} {a : α} {aa : List α} {ls : List β} (h : All2 R (a :: aa) ls) : ∃ l r, ls = l :: r ∧ R a l ∧ All2 R aa r := by
  cases ls with
  | nil => exact h.elim
  | cons l r => exact ⟨l, r, rfl, h⟩
theorem all2_nil {α β : Type} {R : α → β → Prop} {ls : List β} (h : All2 R [] ls) : ls = [] := by
  cases ls with
  | nil => rfl
  | cons l r => exact h.elim
/-- A command's cells. -/
theorem lok_cmd {ls : List LV} (h : LOk Try.prog Hp (f + 3) 28 ls) : ∃ c, CmdC Hp c ls ∧ c.Ok ∧ ∀ x ∈ ls, ∀ i, x.bid? = some i → i < Hp.next := by
  obtain ⟨fs, hu, hts⟩ := und28
  unfold LOk at h
  rw [hu] at h
  obtain ⟨lss, rfl, hl, hall⟩ := h
  generalize hfl : fs.toList = fl at hts hall
  obtain ⟨f0, q0, rfl, t0, hts⟩ := List.map_eq_cons_iff.1 hts
  obtain ⟨f1, q1, rfl, t1, hts⟩ := List.map_eq_cons_iff.1 hts
  obtain ⟨f2, q2, rfl, t2, hts⟩ := List.map_eq_cons_iff.1 hts
  obtain ⟨f3, q3, rfl, t3, hts⟩ := List.map_eq_cons_iff.1 hts
  obtain ⟨f4, q4, rfl, t4, hts⟩ := List.map_eq_cons_iff.1 hts
  obtain ⟨f5, q5, rfl, t5, hts⟩ := List.map_eq_cons_iff.1 hts
  obtain ⟨f6, q6, rfl, t6, hts⟩ := List.map_eq_cons_iff.1 hts
  obtain rfl := List.map_eq_nil_iff.1 hts
  obtain ⟨l0, r0, rfl, ⟨_, h0⟩, hall⟩ := all2_cons hall
  obtain ⟨l1, r1, rfl, ⟨_, h1⟩, hall⟩ := all2_cons hall
  obtain ⟨l2, r2, rfl, ⟨_, h2⟩, hall⟩ := all2_cons hall
  obtain ⟨l3, r3, rfl, ⟨_, h3⟩, hall⟩ := all2_cons hall
  obtain ⟨l4, r4, rfl, ⟨_, h4⟩, hall⟩ := all2_cons hall
  obtain ⟨l5, r5, rfl, ⟨_, h5⟩, hall⟩ := all2_cons hall
  obtain ⟨l6, r6, rfl, ⟨_, h6⟩, hall⟩ := all2_cons hall
  obtain rfl := all2_nil hall
  rw [t0] at h0; rw [t1] at h1; rw [t2] at h2; rw [t3] at h3; rw [t4] at h4; rw [t5] at h5; rw [t6] at h6
  obtain ⟨op, rfl, o0⟩ := lok_i64 h0
  obtain ⟨u, rfl, o1⟩ := lok_u64 h1
  obtain ⟨v, rfl, o2⟩ := lok_u64 h2
  obtain ⟨w, rfl, o3⟩ := lok_i64 h3
  obtain ⟨t, rfl, o4⟩ := lok_i64 h4
  obtain ⟨d, ds, rfl, s5, o5, b5⟩ := lok_u64s h5
  obtain ⟨b, bs, rfl, s6, o6, b6⟩ := lok_i64s h6
  refine ⟨⟨op, u, v, w, t, ds, bs⟩, ⟨d, b, rfl, s5, s6⟩, ⟨o0, o1, o2, o3, o4, o5, o6⟩, fun x hx i hi => ?_⟩
  simp only [List.flatten_cons, List.flatten_nil, List.cons_append, List.nil_append, List.mem_cons, List.not_mem_nil, or_false] at hx
  rcases hx with rfl | rfl | rfl | rfl | rfl | rfl | rfl
  · cases hi
  · cases hi
  · cases hi
  · cases hi
  · cases hi
  · exact b5 i hi
  · exact b6 i hi
theorem flat_cmds : ∀ {lss : List (List LV)}, (∀ l ∈ lss, ∃ c, CmdC Hp c l ∧ c.Ok ∧ ∀ x ∈ l, ∀ i, x.bid? = some i → i < Hp.next) → ∃ cl : List LCmd, CmdsC Hp cl lss.flatten ∧ cl.length = lss.length ∧ (∀ c ∈ cl, c.Ok) ∧ ∀ x ∈ lss.flatten, ∀ i, x.bid? = some i → i < Hp.next
  | [], _ => ⟨[], rfl, rfl, fun x h => (nomatch h), fun x h => (nomatch h)⟩
  | l :: lss, h => by
    obtain ⟨c, g1, g2, g3⟩ := h l List.mem_cons_self
    obtain ⟨cl, h1, h2, h3, h4⟩ := flat_cmds (lss := lss) (fun l hl => h l (List.mem_cons_of_mem _ hl))
    refine ⟨c :: cl, ⟨l, lss.flatten, rfl, g1, h1⟩, by rw [List.length_cons, List.length_cons, h2], fun y hy => ?_, fun x hx => ?_⟩
    · rcases List.mem_cons.1 hy with rfl | hy
      · exact g2
      · exact h3 y hy
    · rw [List.flatten_cons] at hx
      rcases List.mem_append.1 hx with hx | hx
      · exact g3 x hx
      · exact h4 x hx
end
/-- An argument that is a slice of commands. -/
theorem arg_cmds {Hp : LH} {y : LV} (h : LArg Try.prog Hp 5 30 y) : ∃ cl la, CV Hp y cl la ∧ (∀ x ∈ la, ∀ i, x.bid? = some i → i < Hp.next) ∧ ∀ c ∈ cl, c.Ok := by
  unfold LArg at h
  rw [TUnd.out (P := Try.prog) (t := 30)] at h
  unfold LOk at h
  simp only at h
  rw [TUnd.out (P := Try.prog) (t := 30)] at h
  rcases h with h | h | ⟨i, len, cap, xs, el, lss, h0, h1, h2, h3, h4, h5, h6, rfl, h8, h9⟩
  · simp only [List.cons.injEq, and_true] at h
    subst h
    exact ⟨[], [], ⟨SV.nil _ _, rfl⟩, fun x h => (nomatch h), fun x h => (nomatch h)⟩
  · simp only [List.cons.injEq, and_true] at h
    subst h
    exact ⟨[], [], ⟨.inl ⟨rfl, rfl, .inr rfl⟩, rfl⟩, fun x h => (nomatch h), fun x h => (nomatch h)⟩
  · simp only [List.cons.injEq, and_true] at h0
    subst h0
    obtain ⟨cl, g1, g2, g3, g4⟩ := flat_cmds (Hp := Hp) (lss := lss) (fun l hl => lok_cmd (h9 l hl).2)
    have hl : cl.length = len := by omega
    subst hl
    have hfl := g1.len
    exact ⟨cl, lss.flatten, ⟨.inr ⟨i, 0, _, _, _, _, _, rfl, h5, h6, h2, by omega, by rw [List.drop_zero, List.take_of_length_le (by omega)]⟩, g1⟩, g4, g3⟩
end Go.Proofs.Ythakgknamfopcaa
