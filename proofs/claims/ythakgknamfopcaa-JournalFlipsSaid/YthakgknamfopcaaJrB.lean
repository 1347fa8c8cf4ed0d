/- Walks of the codec: commands, which of them are valid. -/
import Derived.Test.YthakgknamfopcaaJrA
namespace Go.Proofs.Ythakgknamfopcaa
open Go Go.Lv
set_option linter.unusedVariables false
set_option maxRecDepth 100000

/-- A command. -/
structure LCmd where
  op : Int
  u : Nat
  v : Nat
  w : Int
  t : Int
  draws : List Nat
  bounds : List Int
def u64L (l : List Nat) : List LV := l.map fun (n : Nat) => LV.int .u64 (n : Int)
def i64L (l : List Int) : List LV := l.map fun (n : Int) => LV.int .i64 n
def In64 (x : Int) : Prop := -9223372036854775808 ≤ x ∧ x < 9223372036854775808
structure LCmd.Ok (c : LCmd) : Prop where
  op : In64 c.op
  u : c.u < 2 ^ 64
  v : c.v < 2 ^ 64
  w : In64 c.w
  t : In64 c.t
  draws : ∀ x ∈ c.draws, x < 2 ^ 64
  bounds : ∀ x ∈ c.bounds, In64 x
def cells7 (op : Int) (u v : Nat) (w t : Int) (d b : LV) : List LV := [.int .i64 op, .int .u64 u, .int .u64 v, .int .i64 w, .int .i64 t, d, b]
/-- These cells are that command. -/
def CmdC (H : LH) (c : LCmd) (cs : List LV) : Prop := ∃ d b, cs = cells7 c.op c.u c.v c.w c.t d b ∧ SV H 1 d c.draws.length (u64L c.draws) ∧ SV H 1 b c.bounds.length (i64L c.bounds)

/-! ### clearing -/
def zeroOf : Vk → LV
  | .id => .int .u64 0
  | .num => .int .i64 0
  | .draws => .slice none 0 (.ex 0)
  | .bounds => .slice none 0 (.ex 0)
def clr : List (Vk × Nat) → List LV → List LV
  | [], cs => cs
  | (k, off) :: l, cs => clr l (cs.set off (zeroOf k))
def clrF : Vk → Nat
  | .id => 79
  | .num => 80
  | .draws => 78
  | .bounds => 77
section
variable {H : LH} {cb off : Nat} {cs : List LV} {e : Nat} {opn : Bool}
theorem clr_id (hcb : cb < H.next) (hg : H.get cb = some (.cells cs e true opn)) (ho : off < cs.length) : CallP Try.prog 79 [.agg [], .ptr (some (cb, off))] H (fun o H' => o = .ret (.tuple []) ∧ H' = (H.new (.cells [] 83 true false)).put cb (.cells (cs.set off (zeroOf .id)) e true opn)) := by
  refine en79 (by simp) ?_
  unfold c79
  have hl : off + 1 ≤ cs.length := ho
  have hg' : (H.new (.cells [] 83 true false)).get cb = some (.cells cs e true opn) := by rw [get_new_old hcb]; exact hg
  refine WP.seq ?_
  refine WP.region rfl ?_
  refine WS.val rfl (LK.box rfl rfl) ?_
  refine WS.nil ?_
  refine WP.sub (gs := [(1, _)]) ?_ ⟨rfl, trivial⟩
  refine WP.region rfl ?_
  refine WS.val rfl (LK.move rfl) ?_
  refine WS.val rfl (LK.nilCheck_ptr rfl) ?_
  refine WS.skip rfl (LK.store (n := 1) rfl rfl hg' rfl rfl hl) ?_
  refine WS.nil ?_
  refine WP.sub (gs := []) ?_ trivial
  exact WP.nil rfl (Fin.ret' rfl rfl ⟨rfl, by show _ = _; rw [← splice_one ho]; rfl⟩)
theorem clr_num (hcb : cb < H.next) (hg : H.get cb = some (.cells cs e true opn)) (ho : off < cs.length) : CallP Try.prog 80 [.agg [], .ptr (some (cb, off))] H (fun o H' => o = .ret (.tuple []) ∧ H' = (H.new (.cells [] 83 true false)).put cb (.cells (cs.set off (zeroOf .num)) e true opn)) := by
  refine en80 (by simp) ?_
  unfold c80
  have hl : off + 1 ≤ cs.length := ho
  have hg' : (H.new (.cells [] 83 true false)).get cb = some (.cells cs e true opn) := by rw [get_new_old hcb]; exact hg
  refine WP.seq ?_
  refine WP.region rfl ?_
  refine WS.val rfl (LK.box rfl rfl) ?_
  refine WS.nil ?_
  refine WP.sub (gs := [(1, _)]) ?_ ⟨rfl, trivial⟩
  refine WP.region rfl ?_
  refine WS.val rfl (LK.move rfl) ?_
  refine WS.val rfl (LK.nilCheck_ptr rfl) ?_
  refine WS.skip rfl (LK.store (n := 1) rfl rfl hg' rfl rfl hl) ?_
  refine WS.nil ?_
  refine WP.sub (gs := []) ?_ trivial
  exact WP.nil rfl (Fin.ret' rfl rfl ⟨rfl, by show _ = _; rw [← splice_one ho]; rfl⟩)
theorem clr_draws (hcb : cb < H.next) (hg : H.get cb = some (.cells cs e true opn)) (ho : off < cs.length) : CallP Try.prog 78 [.agg [], .ptr (some (cb, off))] H (fun o H' => o = .ret (.tuple []) ∧ H' = (H.new (.cells [] 83 true false)).put cb (.cells (cs.set off (zeroOf .draws)) e true opn)) := by
  refine en78 (by simp) ?_
  unfold c78
  have hl : off + 1 ≤ cs.length := ho
  have hg' : (H.new (.cells [] 83 true false)).get cb = some (.cells cs e true opn) := by rw [get_new_old hcb]; exact hg
  refine WP.seq ?_
  refine WP.region rfl ?_
  refine WS.val rfl (LK.box rfl rfl) ?_
  refine WS.nil ?_
  refine WP.sub (gs := [(1, _)]) ?_ ⟨rfl, trivial⟩
  refine WP.region rfl ?_
  refine WS.val rfl (LK.move rfl) ?_
  refine WS.val rfl (LK.nilCheck_ptr rfl) ?_
  refine WS.skip rfl (LK.store (n := 1) rfl rfl hg' rfl rfl hl) ?_
  refine WS.nil ?_
  refine WP.sub (gs := []) ?_ trivial
  exact WP.nil rfl (Fin.ret' rfl rfl ⟨rfl, by show _ = _; rw [← splice_one ho]; rfl⟩)
theorem clr_bounds (hcb : cb < H.next) (hg : H.get cb = some (.cells cs e true opn)) (ho : off < cs.length) : CallP Try.prog 77 [.agg [], .ptr (some (cb, off))] H (fun o H' => o = .ret (.tuple []) ∧ H' = (H.new (.cells [] 83 true false)).put cb (.cells (cs.set off (zeroOf .bounds)) e true opn)) := by
  refine en77 (by simp) ?_
  unfold c77
  have hl : off + 1 ≤ cs.length := ho
  have hg' : (H.new (.cells [] 83 true false)).get cb = some (.cells cs e true opn) := by rw [get_new_old hcb]; exact hg
  refine WP.seq ?_
  refine WP.region rfl ?_
  refine WS.val rfl (LK.box rfl rfl) ?_
  refine WS.nil ?_
  refine WP.sub (gs := [(1, _)]) ?_ ⟨rfl, trivial⟩
  refine WP.region rfl ?_
  refine WS.val rfl (LK.move rfl) ?_
  refine WS.val rfl (LK.nilCheck_ptr rfl) ?_
  refine WS.skip rfl (LK.store (n := 1) rfl rfl hg' rfl rfl hl) ?_
  refine WS.nil ?_
  refine WP.sub (gs := []) ?_ trivial
  exact WP.nil rfl (Fin.ret' rfl rfl ⟨rfl, by show _ = _; rw [← splice_one ho]; rfl⟩)
theorem clr_all (hcb : cb < H.next) (hg : H.get cb = some (.cells cs e true opn)) (ho : off < cs.length) : ∀ k, CallP Try.prog (clrF k) [.agg [], .ptr (some (cb, off))] H (fun o H' => o = .ret (.tuple []) ∧ H' = (H.new (.cells [] 83 true false)).put cb (.cells (cs.set off (zeroOf k)) e true opn))
  | .id => clr_id hcb hg ho
  | .num => clr_num hcb hg ho
  | .draws => clr_draws hcb hg ho
  | .bounds => clr_bounds hcb hg ho
end

noncomputable def clearing (cb : Nat) (H0 : LH) (Z : List LV) : Visitor 83 (.agg []) cb where
  f := clrF
  I pr l H := ¬ pr cb ∧ cb < H0.next ∧ Ext H0 H (fun i => i = cb) ∧ ∃ cs, H.get cb = some (.cells cs 28 true false) ∧ cs.length = 7 ∧ (∀ p ∈ l, p.2 < 7) ∧ clr l cs = Z
  Rp p H := False
  m1 H := by kernel_rfl
  m2 H := by kernel_rfl
  m3 H := by kernel_rfl
  m4 H := by kernel_rfl
  s2 := by kernel_rfl
  s3 := by kernel_rfl
  s4 := by kernel_rfl
  ent k := match k with
    | .id => (inferInstance : Ent Try.prog 79)
    | .num => (inferInstance : Ent Try.prog 80)
    | .draws => (inferInstance : Ent Try.prog 78)
    | .bounds => (inferInstance : Ent Try.prog 77)
  stable := by
    rintro pr l H o ⟨h1, h2, h3, cs, h4, h5⟩
    refine ⟨?_, h2, h3.new o, cs, by rw [get_new_old (by have := h3.next; omega)]; exact h4, h5⟩
    rintro (h | h)
    · exact h1 h
    · have := h3.next; omega
  less := by
    rintro pr pr' l H ⟨h1, h2⟩ h
    exact ⟨fun hh => h1 (h _ hh), h2⟩
  step := by
    rintro pr k off l H ⟨h1, h2, h3, cs, h4, h5, h6, h7⟩
    have hcb : cb < H.next := by have := h3.next; omega
    have ho : off < cs.length := by rw [h5]; exact h6 (k, off) List.mem_cons_self
    refine (clr_all hcb h4 ho k).mono ?_
    rintro o H' ⟨rfl, rfl⟩
    refine .inl ⟨rfl, ⟨h1, h2, (h3.new _).put _ (fun _ => rfl), _, get_put_self, by simpa using h5, fun p hp => h6 p (List.mem_cons_of_mem _ hp), h7⟩, by simp, ?_⟩
    intro i hi hin
    rw [get_put_other (by rintro rfl; exact h1 hi), get_new_old hin]

/-- Does a kind of command use the field there? -/
def uses (op : Int) (off : Nat) : Bool := match vis op with
  | some l => l.any fun p => p.2 == off
  | none => false
def restN (b : Bool) (n : Nat) : Nat := if b then 0 else n
def restI (b : Bool) (n : Int) : Int := if b then 0 else n
def restV (b : Bool) (v : LV) : LV := if b then .slice none 0 (.ex 0) else v
theorem vis_lt {op : Int} {l : List (Vk × Nat)} (h : vis op = some l) : ∀ p ∈ l, p.2 < 7 := by
  unfold vis at h
  repeat' (split at h)
  all_goals first
    | (cases h; done)
    | (cases h; decide)
theorem clr_vis {op : Int} {l : List (Vk × Nat)} (h : vis op = some l) (o' : Int) (u v : Nat) (w t : Int) (d b : LV) :
    clr l (cells7 o' u v w t d b) = cells7 o' (restN (uses op 1) u) (restN (uses op 2) v) (restI (uses op 3) w) (restI (uses op 4) t) (restV (uses op 5) d) (restV (uses op 6) b) := by
  simp only [uses, h]
  unfold vis at h
  repeat' (split at h)
  all_goals first
    | (cases h; done)
    | (cases h; rfl)
theorem restSV {H : LH} {v : LV} {n : Nat} {ls : List LV} (q : Bool) (h : SV H 1 v n ls) : SV H 1 (restV q v) (restN q n) (if q then [] else ls) := by
  cases q with
  | true => exact SV.nil _ _
  | false => exact h
/-- Is a command valid? -/
def checkC (c : LCmd) : Int := match vis c.op with
  | none => 2
  | some _ => if restN (uses c.op 1) c.u ≠ 0 ∨ restN (uses c.op 2) c.v ≠ 0 ∨ restI (uses c.op 3) c.w ≠ 0 ∨ restI (uses c.op 4) c.t ≠ 0 ∨ 0 < restN (uses c.op 5) c.draws.length ∨ 0 < restN (uses c.op 6) c.bounds.length then 2
    else if 16384 < c.draws.length ∨ 1024 < c.bounds.length then 16 else 0

theorem cells7_one {op : Int} {u v : Nat} {w t : Int} {d b : LV} (hd : oneCell d = true) (hb : oneCell b = true) : (cells7 op u v w t d b).all oneCell = true := by
  show (true && (true && (true && (true && (true && (oneCell d && (oneCell b && true))))))) = true
  rw [hd, hb]; rfl
theorem fields_clear (c : LCmd) (H : LH) (cb : Nat) (hcb : cb < H.next) (d b : LV) (hg : H.get cb = some (.cells (cells7 c.op c.u c.v c.w c.t d b) 28 true false)) :
    CallP Try.prog 33 [.ptr (some (cb, 0)), .iface 83 (.agg [])] H (fun o H' => ∃ q, o = .ret (.bool q) ∧ Ext H H' (fun i => i = cb) ∧ (q = false → vis c.op = none) ∧
      (q = true → ∃ l, vis c.op = some l ∧ H'.get cb = some (.cells (cells7 c.op (restN (uses c.op 1) c.u) (restN (uses c.op 2) c.v) (restI (uses c.op 3) c.w) (restI (uses c.op 4) c.t) (restV (uses c.op 5) d) (restV (uses c.op 6) b)) 28 true false))) := by
  refine (fields (clearing cb H (match vis c.op with | some l => clr l (cells7 c.op c.u c.v c.w c.t d b) | none => [])) c.op H hcb hg rfl ?_).mono ?_
  · intro l hl
    exact ⟨fun h => h, hcb, Ext.refl _ _, _, hg, rfl, vis_lt hl, by rw [hl]⟩
  · rintro o H' (⟨l, hl, rfl, pr, h1, h2, h3, cs, h4, h5, h6, h7⟩ | ⟨hn, rfl, hE⟩ | ⟨p, rfl, hp⟩)
    · refine ⟨true, rfl, h3, fun h => (nomatch h), fun _ => ⟨l, hl, ?_⟩⟩
      rw [hl] at h7
      have h8 : cs = clr l (cells7 c.op c.u c.v c.w c.t d b) := h7
      rw [h4, h8, clr_vis hl]
    · exact ⟨false, rfl, hE.mono (fun i _ h => h.elim), fun _ => hn, fun h => (nomatch h)⟩
    · exact hp.elim

set_option maxHeartbeats 4000000 in
theorem check (H : LH) (c : LCmd) (cs : List LV) (hcs : CmdC H c cs) : CallP Try.prog 29 [.agg cs] H (fun o H' => o = .ret (.int .i64 (checkC c)) ∧ Ext H H' none') := by
  obtain ⟨d, b, rfl, hd, hb⟩ := hcs
  refine en29 (by simp) ?_
  unfold c29
  generalize hH2 : ((H.new (.cells (cells7 c.op c.u c.v c.w c.t d b) 28 true false)).new (.cells [.int .i64 0, .int .u64 0, .int .u64 0, .int .i64 0, .int .i64 0, .slice none 0 (.ex 0), .slice none 0 (.ex 0)] 28 true false)).put (H.next + 1) (.cells (cells7 c.op c.u c.v c.w c.t d b) 28 true false) = H2
  have hone : (cells7 c.op c.u c.v c.w c.t d b).all oneCell = true := cells7_one (SV.one hd) (SV.one hb)
  have hE2 : Ext H H2 none' := by rw [← hH2]; exact (((Ext.refl _ _).new _).new _).put _ (fun h => by omega)
  have hn2 : H2.next = H.next + 2 := by rw [← hH2]; rfl
  have hg2 : H2.get (H.next + 1) = some (.cells (cells7 c.op c.u c.v c.w c.t d b) 28 true false) := by rw [← hH2]; exact get_put_self
  have hd2 : H2.get H.next = some (.cells (cells7 c.op c.u c.v c.w c.t d b) 28 true false) := by rw [← hH2, get_put_other (by omega), get_new_old (by simp)]; exact get_new_self
  refine WP.seq ?_
  refine WP.region rfl ?_
  refine WS.val rfl (LK.box rfl hone) ?_
  refine WS.val rfl (LK.assign rfl) ?_
  refine WS.nil ?_
  refine WP.sub (gs := [(2, _), (1, _)]) ?_ ⟨rfl, rfl, trivial⟩
  refine WP.seq ?_
  refine WP.region rfl ?_
  refine WS.val rfl (LK.load_agg rfl get_new_self (Nat.le_refl 7) rfl) ?_
  refine WS.val rfl (LK.alloc) ?_
  refine WS.skip rfl (LK.store (n := 7) rfl rfl get_new_self rfl hone (Nat.le_refl 7)) ?_
  refine WS.nil ?_
  refine WP.sub (gs := [(3, _), (2, _), (1, _)]) ?_ ⟨rfl, rfl, rfl, trivial⟩
  refine WP.seq ?_
  refine WP.seq ?_
  refine (?_ : WP Try.prog _ _ _ (((H.new (.cells (cells7 c.op c.u c.v c.w c.t d b) 28 true false)).new (.cells [.int .i64 0, .int .u64 0, .int .u64 0, .int .i64 0, .int .i64 0, .slice none 0 (.ex 0), .slice none 0 (.ex 0)] 28 true false)).put (H.next + 1) (.cells (cells7 c.op c.u c.v c.w c.t d b) 28 true false)) _)
  rw [hH2]
  refine WP.region rfl ?_
  refine WS.val rfl (LK.build_s rfl rfl) ?_
  refine WS.val rfl (LK.makeInterface rfl) ?_
  (refine WS.call rfl (LK.call rfl) (CallP.mono (fields_clear c H2 (H.next + 1) (by omega) d b hg2) ?_); rintro _ Hc ⟨q, rfl, hE3, hf, ht⟩)
  refine WS.val rfl (LK.not rfl) ?_
  refine WS.nil ?_
  refine WP.sub (gs := [(8, _), (3, _), (2, _), (1, _)]) ?_ ⟨rfl, rfl, rfl, rfl, trivial⟩
  refine WP.cond rfl (fun h8 => ?_) (fun h8 => ?_)
  · skip
    refine WP.seq ?_
    have hq : q = false := by simpa using h8
    have hv := hf hq
    refine WP.region rfl ?_
    refine WS.val rfl (LK.assign rfl) ?_
    refine WS.nil ?_
    refine WP.sub (gs := [(2, _), (3, _), (1, _)]) ?_ ⟨rfl, rfl, rfl, trivial⟩
    refine WP.ret rfl (Fin.ret' rfl rfl ⟨?_, hE2.trans hE3 (fun i hi h => by omega)⟩) <;> refine congrArg (fun z => LOut.ret (LV.int .i64 z)) ?_ <;> unfold checkC <;> rw [hv] <;> simp only [Bool.not_false, Bool.not_true, bne_iff_ne, ne_eq, bne_eq_false_iff_eq, decide_eq_true_eq, decide_eq_false_iff_not] at * <;> first | rfl | rw [if_pos (by omega)] | rw [if_neg (by omega), if_pos (by omega)] | rw [if_neg (by omega), if_neg (by omega)] | (exfalso; omega)
  refine WP.skip ?_
  refine WP.seq ?_
  refine WP.seq ?_
  obtain ⟨l, hv, hg3⟩ := ht (by simpa using h8)
  have hd3 := restSV (uses c.op 5) ((hd.ext hE2 (fun i hi h => h)).ext hE3 (fun i hi h => by have := hd.lt hi; omega))
  have hb3 := restSV (uses c.op 6) ((hb.ext hE2 (fun i hi h => h)).ext hE3 (fun i hi h => by have := hb.lt hi; omega))
  refine WP.region rfl ?_
  refine WS.val rfl (LK.fieldAddr rfl rfl) ?_
  refine WS.val rfl (LK.load rfl hg3 rfl) ?_
  refine WS.val rfl (LK.neq rfl rfl) ?_
  refine WS.val rfl (LK.move rfl) ?_
  first | refine WS.val rfl (LK.fieldAddr rfl rfl) ?_ | refine WS.no rfl ?_ | (refine WS.guard rfl (fun h12 => ?_) (fun h12 => ?_) <;> first | refine WS.val rfl (LK.fieldAddr rfl rfl) ?_ | refine WS.no rfl ?_)
  all_goals first | refine WS.val rfl (LK.load rfl hg3 rfl) ?_ | refine WS.no rfl ?_
  all_goals first | refine WS.val rfl (LK.neq rfl rfl) ?_ | refine WS.no rfl ?_
  all_goals first | refine WS.val rfl (LK.pick_t rfl rfl) ?_ | refine WS.val rfl (LK.pick_f rfl rfl) ?_
  all_goals (refine WS.val rfl (LK.move rfl) ?_)
  all_goals first | refine WS.val rfl (LK.fieldAddr rfl rfl) ?_ | refine WS.no rfl ?_ | (refine WS.guard rfl (fun h17 => ?_) (fun h17 => ?_) <;> first | refine WS.val rfl (LK.fieldAddr rfl rfl) ?_ | refine WS.no rfl ?_)
  all_goals first | refine WS.val rfl (LK.load rfl hg3 rfl) ?_ | refine WS.no rfl ?_
  all_goals first | refine WS.val rfl (LK.neq rfl rfl) ?_ | refine WS.no rfl ?_
  all_goals first | refine WS.val rfl (LK.pick_t rfl rfl) ?_ | refine WS.val rfl (LK.pick_f rfl rfl) ?_
  all_goals (refine WS.val rfl (LK.move rfl) ?_)
  all_goals first | refine WS.val rfl (LK.fieldAddr rfl rfl) ?_ | refine WS.no rfl ?_ | (refine WS.guard rfl (fun h22 => ?_) (fun h22 => ?_) <;> first | refine WS.val rfl (LK.fieldAddr rfl rfl) ?_ | refine WS.no rfl ?_)
  all_goals first | refine WS.val rfl (LK.load rfl hg3 rfl) ?_ | refine WS.no rfl ?_
  all_goals first | refine WS.val rfl (LK.neq rfl rfl) ?_ | refine WS.no rfl ?_
  all_goals first | refine WS.val rfl (LK.pick_t rfl rfl) ?_ | refine WS.val rfl (LK.pick_f rfl rfl) ?_
  all_goals (refine WS.val rfl (LK.move rfl) ?_)
  all_goals first | refine WS.val rfl (LK.fieldAddr rfl rfl) ?_ | refine WS.no rfl ?_ | (refine WS.guard rfl (fun h27 => ?_) (fun h27 => ?_) <;> first | refine WS.val rfl (LK.fieldAddr rfl rfl) ?_ | refine WS.no rfl ?_)
  all_goals first | refine WS.val rfl (LK.load rfl hg3 rfl) ?_ | refine WS.no rfl ?_
  all_goals first | refine WS.val rfl (SV.len hd3 rfl) ?_ | refine WS.no rfl ?_
  all_goals first | refine WS.val rfl (LK.gtr rfl rfl) ?_ | refine WS.no rfl ?_
  all_goals first | refine WS.val rfl (LK.pick_t rfl rfl) ?_ | refine WS.val rfl (LK.pick_f rfl rfl) ?_
  all_goals (refine WS.val rfl (LK.move rfl) ?_)
  all_goals first | refine WS.val rfl (LK.fieldAddr rfl rfl) ?_ | refine WS.no rfl ?_ | (refine WS.guard rfl (fun h33 => ?_) (fun h33 => ?_) <;> first | refine WS.val rfl (LK.fieldAddr rfl rfl) ?_ | refine WS.no rfl ?_)
  all_goals first | refine WS.val rfl (LK.load rfl hg3 rfl) ?_ | refine WS.no rfl ?_
  all_goals first | refine WS.val rfl (SV.len hb3 rfl) ?_ | refine WS.no rfl ?_
  all_goals first | refine WS.val rfl (LK.gtr rfl rfl) ?_ | refine WS.no rfl ?_
  all_goals first | refine WS.val rfl (LK.pick_t rfl rfl) ?_ | refine WS.val rfl (LK.pick_f rfl rfl) ?_
  all_goals
   refine WS.nil ?_
   refine WP.sub (gs := [(38, _), (2, _), (1, _)]) ?_ ⟨rfl, rfl, rfl, trivial⟩
   refine WP.cond rfl (fun h38 => ?_) (fun h38 => ?_)
   · skip
     refine WP.seq ?_
     refine WP.region rfl ?_
     refine WS.val rfl (LK.assign rfl) ?_
     refine WS.nil ?_
     refine WP.sub (gs := [(2, _), (1, _)]) ?_ ⟨rfl, rfl, trivial⟩
     refine WP.ret rfl (Fin.ret' rfl rfl ⟨?_, hE2.trans hE3 (fun i hi h => by omega)⟩) <;> refine congrArg (fun z => LOut.ret (LV.int .i64 z)) ?_ <;> unfold checkC <;> rw [hv] <;> simp only [Bool.not_false, Bool.not_true, bne_iff_ne, ne_eq, bne_eq_false_iff_eq, decide_eq_true_eq, decide_eq_false_iff_not] at * <;> first | rfl | rw [if_pos (by omega)] | rw [if_neg (by omega), if_pos (by omega)] | rw [if_neg (by omega), if_neg (by omega)] | (exfalso; omega)
   first
    | (cases h38; done)
    | skip
      refine WP.skip ?_
      refine WP.seq ?_
      refine WP.seq ?_
      have hd4 := (hd.ext hE2 (fun i hi h => h)).ext hE3 (fun i hi h => by have := hd.lt hi; omega)
      have hb4 := (hb.ext hE2 (fun i hi h => h)).ext hE3 (fun i hi h => by have := hb.lt hi; omega)
      have hg4 : Hc.get H.next = some (.cells (cells7 c.op c.u c.v c.w c.t d b) 28 true false) := by rw [hE3.keep _ (by omega) (by omega)]; exact hd2
      refine WP.region rfl ?_
      refine WS.val rfl (LK.fieldAddr rfl rfl) ?_
      refine WS.val rfl (LK.load rfl hg4 rfl) ?_
      refine WS.val rfl (SV.len hd4 rfl) ?_
      refine WS.val rfl (LK.gtr rfl rfl) ?_
      refine WS.val rfl (LK.move rfl) ?_
      first | refine WS.val rfl (LK.fieldAddr rfl rfl) ?_ | refine WS.no rfl ?_ | (refine WS.guard rfl (fun h43 => ?_) (fun h43 => ?_) <;> first | refine WS.val rfl (LK.fieldAddr rfl rfl) ?_ | refine WS.no rfl ?_)
      all_goals first | refine WS.val rfl (LK.load rfl hg4 rfl) ?_ | refine WS.no rfl ?_
      all_goals first | refine WS.val rfl (SV.len hb4 rfl) ?_ | refine WS.no rfl ?_
      all_goals first | refine WS.val rfl (LK.gtr rfl rfl) ?_ | refine WS.no rfl ?_
      all_goals first | refine WS.val rfl (LK.pick_t rfl rfl) ?_ | refine WS.val rfl (LK.pick_f rfl rfl) ?_
      all_goals
       refine WS.nil ?_
       refine WP.sub (gs := [(48, _), (2, _)]) ?_ ⟨rfl, rfl, trivial⟩
       refine WP.cond rfl (fun h48 => ?_) (fun h48 => ?_)
       · skip
         refine WP.seq ?_
         refine WP.region rfl ?_
         refine WS.val rfl (LK.assign rfl) ?_
         refine WS.nil ?_
         refine WP.sub (gs := [(2, _)]) ?_ ⟨rfl, trivial⟩
         refine WP.ret rfl (Fin.ret' rfl rfl ⟨?_, hE2.trans hE3 (fun i hi h => by omega)⟩) <;> refine congrArg (fun z => LOut.ret (LV.int .i64 z)) ?_ <;> unfold checkC <;> rw [hv] <;> simp only [Bool.not_false, Bool.not_true, bne_iff_ne, ne_eq, bne_eq_false_iff_eq, decide_eq_true_eq, decide_eq_false_iff_not] at * <;> first | rfl | rw [if_pos (by omega)] | rw [if_neg (by omega), if_pos (by omega)] | rw [if_neg (by omega), if_neg (by omega)] | (exfalso; omega)
       first
        | (cases h48; done)
        | skip
          refine WP.skip ?_
          refine WP.seq ?_
          refine WP.region rfl ?_
          refine WS.val rfl (LK.assign rfl) ?_
          refine WS.nil ?_
          refine WP.sub (gs := [(2, _)]) ?_ ⟨rfl, trivial⟩
          refine WP.ret rfl (Fin.ret' rfl rfl ⟨?_, hE2.trans hE3 (fun i hi h => by omega)⟩) <;> refine congrArg (fun z => LOut.ret (LV.int .i64 z)) ?_ <;> unfold checkC <;> rw [hv] <;> simp only [Bool.not_false, Bool.not_true, bne_iff_ne, ne_eq, bne_eq_false_iff_eq, decide_eq_true_eq, decide_eq_false_iff_not] at * <;> first | rfl | rw [if_pos (by omega)] | rw [if_neg (by omega), if_pos (by omega)] | rw [if_neg (by omega), if_neg (by omega)] | (exfalso; omega)
/-- The writer there has these bytes. -/
def WBk (H : LH) (wb : Nat) (v : LV) (bs : List UInt8) : Prop := wb < H.next ∧ H.get wb = some (.cells [v] 69 true false) ∧ OB H v bs ∧ ∀ i, v.bid? = some i → i ≠ wb
/-- The writer has come from there to here. -/
def Wr (H H' : LH) (wb : Nat) (v : LV) (bs' : List UInt8) : Prop := ∃ v', WBk H' wb v' bs' ∧ Ext H H' (fun i => i = wb ∨ v.bid? = some i) ∧ (∀ i, v'.bid? = some i → v.bid? = some i ∨ H.next ≤ i)
theorem Wr.refl {H : LH} {wb : Nat} {v : LV} {bs : List UInt8} (h : WBk H wb v bs) : Wr H H wb v bs := ⟨v, h, Ext.refl _ _, fun i hi => .inl hi⟩
theorem Wr.trans {H H' H'' : LH} {wb : Nat} {v v' : LV} {bs' : List UInt8} (hE : Ext H H' (fun i => i = wb ∨ v.bid? = some i)) (hv : ∀ i, v'.bid? = some i → v.bid? = some i ∨ H.next ≤ i) (h : Wr H' H'' wb v' bs') : Wr H H'' wb v bs' := by
  obtain ⟨v2, h1, h2, h3⟩ := h
  refine ⟨v2, h1, hE.trans h2 (fun i hi hw => ?_), fun i hi => ?_⟩
  · rcases hw with h | h
    · exact .inl h
    · rcases hv i h with h | h
      · exact .inr h
      · omega
  · rcases h3 i hi with h | h
    · exact hv i h
    · exact .inr (by have := hE.next; omega)
theorem WBk.new {H : LH} {wb : Nat} {v : LV} {bs : List UInt8} (h : WBk H wb v bs) (o : LO) : WBk (H.new o) wb v bs :=
  ⟨by have := h.1; simp; omega, by rw [get_new_old h.1]; exact h.2.1, h.2.2.1.new o, h.2.2.2⟩
theorem WBk.ext {H H' : LH} {wb : Nat} {v : LV} {bs : List UInt8} (h : WBk H wb v bs) {W : Nat → Prop} (hE : Ext H H' W) (h1 : ¬ W wb) (h2 : ∀ i, v.bid? = some i → ¬ W i) : WBk H' wb v bs :=
  ⟨Nat.lt_of_lt_of_le h.1 hE.next, hE.get h.1 h1 h.2.1, h.2.2.1.ext hE h2, h.2.2.2⟩
/-- A number more, stored. -/
theorem wr_put {H H1 : LH} {wb : Nat} {v v' : LV} {bs bs' : List UInt8} (h : WBk H wb v bs) (hO : OB H1 v' bs') (hE : Ext H H1 (fun i => v.bid? = some i)) (hv : ∀ i, v'.bid? = some i → v.bid? = some i ∨ H.next ≤ i) : Wr H (H1.put wb (.cells [v'] 69 true false)) wb v bs' := by
  have hne : ∀ i, v'.bid? = some i → i ≠ wb := fun i hi => by
    rcases hv i hi with h1 | h1
    · exact h.2.2.2 i h1
    · have := h.1; omega
  refine ⟨v', ⟨by have := h.1; have := hE.next; simp; omega, get_put_self, hO.ext (W := fun i => i = wb) ((Ext.refl H1 _).put _ (fun _ => rfl)) hne, hne⟩, (hE.mono (fun i _ hi => .inr hi)).put _ (fun _ => .inl rfl), hv⟩
theorem WBk.get1 {H H1 : LH} {wb : Nat} {v : LV} {bs : List UInt8} (h : WBk H wb v bs) (hE : Ext H H1 (fun i => v.bid? = some i)) : H1.get wb = some (.cells [v] 69 true false) :=
  hE.get h.1 (fun hh => h.2.2.2 _ hh rfl) h.2.1

section
variable {H : LH} {wb cb off : Nat} {v : LV} {bs : List UInt8} {cs : List LV} {e : Nat} {own opn : Bool}
set_option maxHeartbeats 4000000 in
theorem wr_id (h : WBk H wb v bs) {x : Nat} (hc : H.get cb = some (.cells cs e own opn)) (hx : cs[off]? = some (.int .u64 x)) (hx64 : x < 2 ^ 64) (hl : bs.length < 50000000000000) :
    CallP Try.prog 72 [.ptr (some (wb, 0)), .ptr (some (cb, off))] H (fun o H' => o = .ret (.tuple []) ∧ Wr H H' wb v (bs ++ encU x)) := by
  refine en72 (by simp) ?_
  unfold c72
  have h1 := h.2.1
  refine WP.draw rfl ?_
  refine WD.val rfl (LK.move rfl) ?_
  refine WD.val rfl (LK.move rfl) ?_
  refine WD.val rfl (LK.nilCheck_ptr rfl) ?_
  refine WD.val rfl (LK.fieldAddr rfl rfl) ?_
  refine WD.val rfl (LK.load rfl h1 rfl) ?_
  refine WD.val rfl (LK.move rfl) ?_
  refine WD.val rfl (LK.nilCheck_ptr rfl) ?_
  refine WD.val rfl (LK.load rfl hc hx) ?_
  (refine WD.call rfl (LK.call rfl) (fun o h => by simp only [okind, h]) (CallP.mono (uvarint H v bs x h.2.2.1 hx64 hl) ?_); rintro _ Hc ⟨v2, rfl, hO, hE, hv⟩)
  refine WD.val rfl (LK.nilCheck_ptr rfl) ?_
  refine WD.val rfl (LK.fieldAddr rfl rfl) ?_
  refine WD.skip rfl (LK.store1 rfl rfl (h.get1 hE) hO.sv.cells hO.sv.one (Nat.le_refl 1)) (fun o h => by simp only [okind, h]) ?_
  refine WD.nil ?_
  refine WP.sub (gs := []) ?_ trivial
  exact WP.nil rfl (Fin.ret' rfl rfl ⟨rfl, wr_put h hO hE hv⟩)
set_option maxHeartbeats 4000000 in
theorem wr_num (h : WBk H wb v bs) {x : Int} (hc : H.get cb = some (.cells cs e own opn)) (hx : cs[off]? = some (.int .i64 x)) (hx64 : In64 x) (hl : bs.length < 50000000000000) :
    CallP Try.prog 73 [.ptr (some (wb, 0)), .ptr (some (cb, off))] H (fun o H' => o = .ret (.tuple []) ∧ Wr H H' wb v (bs ++ encU (zzN x))) := by
  refine en73 (by simp) ?_
  unfold c73
  have h1 := h.2.1
  refine WP.conf rfl ?_
  refine WC.val rfl (LK.move rfl) (fun o h => .inl (by simp only [okind, h])) ?_
  refine WC.val rfl (LK.move rfl) (fun o h => .inl (by simp only [okind, h])) ?_
  refine WC.val rfl (LK.nilCheck_ptr rfl) (fun o h => .inl (by simp only [okind, h])) ?_
  refine WC.val rfl (LK.fieldAddr rfl rfl) (fun o h => .inl (by simp only [okind, h])) ?_
  refine WC.read rfl (LK.load rfl h1 rfl) (fun o h => by simp only [okind, h]) (by first | exact trivial | exact ⟨.inl rfl, trivial⟩ | exact ⟨.inl rfl, .inl rfl, trivial⟩ | exact ⟨.inl rfl, .inl rfl, .inl rfl, trivial⟩ | exact ⟨.inl rfl, .inl rfl, .inl rfl, .inl rfl, trivial⟩ | exact ⟨.inl rfl, .inr ⟨_, LK.load rfl h1 rfl⟩, trivial⟩) ?_
  refine WC.val rfl (LK.move rfl) (fun o h => .inl (by simp only [okind, h])) ?_
  refine WC.val rfl (LK.nilCheck_ptr rfl) (fun o h => .inl (by simp only [okind, h])) ?_
  refine WC.read rfl (LK.load rfl hc hx) (fun o h => by simp only [okind, h]) (by first | exact trivial | exact ⟨.inl rfl, trivial⟩ | exact ⟨.inl rfl, .inl rfl, trivial⟩ | exact ⟨.inl rfl, .inl rfl, .inl rfl, trivial⟩ | exact ⟨.inl rfl, .inl rfl, .inl rfl, .inl rfl, trivial⟩ | exact ⟨.inl rfl, .inr ⟨_, LK.load rfl h1 rfl⟩, trivial⟩) ?_
  (refine WC.call rfl (LK.call rfl) (fun o h => by simp only [okind, h]) (CallP.mono (zigzag H x hx64.1 hx64.2) ?_); rintro _ Hc ⟨rfl, rfl⟩; refine ⟨(by first | exact trivial | exact ⟨.inl rfl, trivial⟩ | exact ⟨.inl rfl, .inl rfl, trivial⟩ | exact ⟨.inl rfl, .inl rfl, .inl rfl, trivial⟩ | exact ⟨.inl rfl, .inl rfl, .inl rfl, .inl rfl, trivial⟩ | exact ⟨.inl rfl, .inr ⟨_, LK.load rfl h1 rfl⟩, trivial⟩), ?_⟩)
  (refine WC.call rfl (LK.call rfl) (fun o h => by simp only [okind, h]) (CallP.mono (uvarint _ v bs (zzN x) h.2.2.1 (zzN_lt hx64.1 hx64.2) hl) ?_); rintro _ Hc ⟨v2, rfl, hO, hE, hv⟩; refine ⟨(by first | exact trivial | exact ⟨.inl rfl, trivial⟩ | exact ⟨.inl rfl, .inl rfl, trivial⟩ | exact ⟨.inl rfl, .inl rfl, .inl rfl, trivial⟩ | exact ⟨.inl rfl, .inl rfl, .inl rfl, .inl rfl, trivial⟩ | exact ⟨.inl rfl, .inr ⟨_, LK.load rfl h1 rfl⟩, trivial⟩), ?_⟩)
  refine WC.val rfl (LK.nilCheck_ptr rfl) (fun o h => .inl (by simp only [okind, h])) ?_
  refine WC.val rfl (LK.fieldAddr rfl rfl) (fun o h => .inl (by simp only [okind, h])) ?_
  refine WC.skip rfl (LK.store1 rfl rfl (h.get1 hE) hO.sv.cells hO.sv.one (Nat.le_refl 1)) (fun o h => by simp only [okind, h]) (by first | exact trivial | exact ⟨.inl rfl, trivial⟩ | exact ⟨.inl rfl, .inl rfl, trivial⟩ | exact ⟨.inl rfl, .inl rfl, .inl rfl, trivial⟩ | exact ⟨.inl rfl, .inl rfl, .inl rfl, .inl rfl, trivial⟩ | exact ⟨.inl rfl, .inr ⟨_, LK.load rfl h1 rfl⟩, trivial⟩) ?_
  refine WC.nil ?_
  refine WP.sub (gs := []) ?_ trivial
  exact WP.nil rfl (Fin.ret' rfl rfl ⟨rfl, wr_put h hO hE hv⟩)
end
def encUs (l : List Nat) : List UInt8 := l.flatMap encU
def encZs (l : List Int) : List UInt8 := l.flatMap fun x => encU (zzN x)
theorem encUs_len {l : List Nat} (h : ∀ x ∈ l, x < 2 ^ 64) : (encUs l).length ≤ 10 * l.length := by
  induction l with
  | nil => simp [encUs]
  | cons x l ih =>
    have h1 := ih (fun y hy => h y (List.mem_cons_of_mem _ hy))
    have h2 := encU_len10 (h x List.mem_cons_self)
    simp only [encUs, List.flatMap_cons, List.length_append, List.length_cons] at h1 ⊢
    omega
theorem encZs_len {l : List Int} (h : ∀ x ∈ l, In64 x) : (encZs l).length ≤ 10 * l.length := by
  induction l with
  | nil => simp [encZs]
  | cons x l ih =>
    have h1 := ih (fun y hy => h y (List.mem_cons_of_mem _ hy))
    have hx := h x List.mem_cons_self
    have h2 := encU_len10 (zzN_lt hx.1 hx.2)
    simp only [encZs, List.flatMap_cons, List.length_append, List.length_cons] at h1 ⊢
    omega

set_option maxHeartbeats 4000000 in
theorem each_id (H : LH) (wb : Nat) (v d : LV) (bs : List UInt8) (ds : List Nat) (h : WBk H wb v bs) (hd : SV H 1 d ds.length (u64L ds)) (hd1 : ∀ i, d.bid? = some i → i ≠ wb ∧ v.bid? ≠ some i) (hr : ∀ x ∈ ds, x < 2 ^ 64) (hn : ds.length ≤ 1000000000) (hl : bs.length < 10000000000000) :
    CallP Try.prog 75 [d, .func (.func 72) [.ptr (some (wb, 0))] []] H (fun o H' => o = .ret (.tuple []) ∧ Wr H H' wb v (bs ++ encUs ds)) := by
  refine en75 (by simp) ?_
  unfold c75
  refine WP.seq ?_
  refine WP.region rfl ?_
  refine WS.val rfl (LK.move rfl) ?_
  refine WS.val rfl (SV.len hd rfl) ?_
  refine WS.val rfl (LK.move rfl) ?_
  refine WS.nil ?_
  refine WP.sub (gs := [(7, _), (6, _), (0, _), (1, _)]) ?_ ⟨rfl, rfl, rfl, rfl, trivial⟩
  refine WP.block ?_
  refine WP.loop ?_
  skip
  refine WP.sub (gs := [(0, d), (1, .func (.func 72) [.ptr (some (wb, 0))] []), (6, .int .i64 ds.length), (7, .int .i64 ((0 : Nat) : Int))]) ?_ ⟨rfl, rfl, rfl, rfl, trivial⟩
  refine WP.inv (fun n g H' => ∃ i : Nat, n = ds.length - i ∧ i ≤ ds.length ∧ g = [(0, d), (1, .func (.func 72) [.ptr (some (wb, 0))] []), (6, .int .i64 ds.length), (7, .int .i64 (i : Int))] ∧ Wr H H' wb v (bs ++ encUs (ds.take i))) (n := ds.length)
    ⟨0, rfl, Nat.zero_le _, rfl, by simpa [encUs] using Wr.refl h⟩ ?_
  rintro n g H' ⟨i, rfl, hi, rfl, v1, hw1, hE1, hv1⟩ ih
  by_cases hlt : i < ds.length
  · have hd' : SV H' 1 d ds.length (u64L ds) := hd.ext hE1 (fun j hj => by have := hd1 j hj; rintro (h | h); exact this.1 h; exact this.2 h)
    obtain ⟨bi, off, c, cs, e, own, opn, hbv, _, h2, h3⟩ := hd'.at1 hlt
    have h4 : (u64L ds)[i]? = some (.int .u64 (ds[i] : Int)) := by simp [u64L, hlt]
    rw [h4] at h3
    have hlen : (encUs (ds.take i)).length ≤ 10 * i := by
      have := encUs_len (l := ds.take i) (fun x hx => hr x (List.mem_of_mem_take hx))
      rw [List.length_take, Nat.min_eq_left (by omega)] at this; exact this
    have hcall := wr_id hw1 h2 h3 (hr _ (List.getElem_mem hlt)) (by simp only [List.length_append]; omega)
    refine WP.seq ?_
    refine WP.region rfl ?_
    refine WS.val rfl (LK.lss rfl rfl) ?_
    refine WS.nil ?_
    refine WP.seq ?_
    refine WP.cond rfl (fun h8 => ?_) (fun h8 => ?_)
    rotate_left
    · exfalso; have := of_decide_eq_false h8; omega
    refine WP.skip ?_
    refine WP.seq ?_
    refine WP.block ?_
    refine WP.seq ?_
    refine WP.region rfl ?_
    refine WS.val rfl (LK.move rfl) ?_
    refine WS.val rfl (LK.assign rfl) ?_
    refine WS.nil ?_
    refine WP.region rfl ?_
    refine WS.val rfl (LK.move rfl) ?_
    refine WS.val rfl (LK.move rfl) ?_
    refine WS.val rfl (LK.move rfl) ?_
    refine WS.val rfl (LK.indexAddr (congrArg some hbv) rfl natOf_cast hlt) ?_
    (refine WS.call rfl (LK.call_func rfl rfl) (CallP.mono (hcall) ?_); rintro _ Hc ⟨rfl, hw2⟩)
    refine WS.nil ?_
    refine WP.sub (gs := [(13, _), (12, _), (11, _), (10, _), (4, _), (9, _), (8, _), (0, _), (1, _), (6, _), (7, _)]) ?_ ⟨rfl, rfl, rfl, rfl, rfl, rfl, rfl, rfl, rfl, rfl, rfl, trivial⟩
    refine WP.inBlock ?_
    refine WP.region rfl ?_
    refine WS.val rfl (LK.add rfl rfl) ?_
    refine WS.val rfl (LK.move rfl) ?_
    refine WS.nil ?_
    refine WP.sub (gs := [(0, _), (1, _), (6, _), (7, .int .i64 ((i + 1 : Nat) : Int))]) (ih (ds.length - (i + 1)) _ _ (by omega) ⟨i + 1, rfl, by omega, rfl, ?_⟩) ⟨rfl, rfl, rfl, ?_, trivial⟩
    · have := Wr.trans hE1 hv1 hw2
      rw [List.take_succ_eq_append_getElem hlt]
      simp only [encUs] at this ⊢
      rw [List.flatMap_append, List.flatMap_cons, List.flatMap_nil, List.append_nil, ← List.append_assoc]
      exact this
    · show some (LV.int .i64 _) = _
      rw [wrap_i64 (by omega) (by omega)]; rfl
  · have hd : ds.take i = ds := List.take_of_length_le (by omega)
    rw [hd] at hw1
    refine WP.seq ?_
    refine WP.region rfl ?_
    refine WS.val rfl (LK.lss rfl rfl) ?_
    refine WS.nil ?_
    refine WP.seq ?_
    refine WP.cond rfl (fun h8 => ?_) (fun h8 => ?_)
    · exfalso; have := of_decide_eq_true h8; omega
    refine WP.exit rfl ?_
    exact WP.nil rfl (Fin.ret' rfl rfl ⟨rfl, v1, hw1, hE1, hv1⟩)
set_option maxHeartbeats 4000000 in
theorem each_num (H : LH) (wb : Nat) (v d : LV) (bs : List UInt8) (ds : List Int) (h : WBk H wb v bs) (hd : SV H 1 d ds.length (i64L ds)) (hd1 : ∀ i, d.bid? = some i → i ≠ wb ∧ v.bid? ≠ some i) (hr : ∀ x ∈ ds, In64 x) (hn : ds.length ≤ 1000000000) (hl : bs.length < 10000000000000) :
    CallP Try.prog 74 [d, .func (.func 73) [.ptr (some (wb, 0))] []] H (fun o H' => o = .ret (.tuple []) ∧ Wr H H' wb v (bs ++ encZs ds)) := by
  refine en74 (by simp) ?_
  unfold c74
  refine WP.seq ?_
  refine WP.region rfl ?_
  refine WS.val rfl (LK.move rfl) ?_
  refine WS.val rfl (SV.len hd rfl) ?_
  refine WS.val rfl (LK.move rfl) ?_
  refine WS.nil ?_
  refine WP.sub (gs := [(7, _), (6, _), (0, _), (1, _)]) ?_ ⟨rfl, rfl, rfl, rfl, trivial⟩
  refine WP.block ?_
  refine WP.loop ?_
  skip
  refine WP.sub (gs := [(0, d), (1, .func (.func 73) [.ptr (some (wb, 0))] []), (6, .int .i64 ds.length), (7, .int .i64 ((0 : Nat) : Int))]) ?_ ⟨rfl, rfl, rfl, rfl, trivial⟩
  refine WP.inv (fun n g H' => ∃ i : Nat, n = ds.length - i ∧ i ≤ ds.length ∧ g = [(0, d), (1, .func (.func 73) [.ptr (some (wb, 0))] []), (6, .int .i64 ds.length), (7, .int .i64 (i : Int))] ∧ Wr H H' wb v (bs ++ encZs (ds.take i))) (n := ds.length)
    ⟨0, rfl, Nat.zero_le _, rfl, by simpa [encZs] using Wr.refl h⟩ ?_
  rintro n g H' ⟨i, rfl, hi, rfl, v1, hw1, hE1, hv1⟩ ih
  by_cases hlt : i < ds.length
  · have hd' : SV H' 1 d ds.length (i64L ds) := hd.ext hE1 (fun j hj => by have := hd1 j hj; rintro (h | h); exact this.1 h; exact this.2 h)
    obtain ⟨bi, off, c, cs, e, own, opn, hbv, _, h2, h3⟩ := hd'.at1 hlt
    have h4 : (i64L ds)[i]? = some (.int .i64 ds[i]) := by simp [i64L, hlt]
    rw [h4] at h3
    have hlen : (encZs (ds.take i)).length ≤ 10 * i := by
      have := encZs_len (l := ds.take i) (fun x hx => hr x (List.mem_of_mem_take hx))
      rw [List.length_take, Nat.min_eq_left (by omega)] at this; exact this
    have hcall := wr_num hw1 h2 h3 (hr _ (List.getElem_mem hlt)) (by simp only [List.length_append]; omega)
    refine WP.seq ?_
    refine WP.region rfl ?_
    refine WS.val rfl (LK.lss rfl rfl) ?_
    refine WS.nil ?_
    refine WP.seq ?_
    refine WP.cond rfl (fun h8 => ?_) (fun h8 => ?_)
    rotate_left
    · exfalso; have := of_decide_eq_false h8; omega
    refine WP.skip ?_
    refine WP.seq ?_
    refine WP.block ?_
    refine WP.seq ?_
    refine WP.region rfl ?_
    refine WS.val rfl (LK.move rfl) ?_
    refine WS.val rfl (LK.assign rfl) ?_
    refine WS.nil ?_
    refine WP.region rfl ?_
    refine WS.val rfl (LK.move rfl) ?_
    refine WS.val rfl (LK.move rfl) ?_
    refine WS.val rfl (LK.move rfl) ?_
    refine WS.val rfl (LK.indexAddr (congrArg some hbv) rfl natOf_cast hlt) ?_
    (refine WS.call rfl (LK.call_func rfl rfl) (CallP.mono (hcall) ?_); rintro _ Hc ⟨rfl, hw2⟩)
    refine WS.nil ?_
    refine WP.sub (gs := [(13, _), (12, _), (11, _), (10, _), (4, _), (9, _), (8, _), (0, _), (1, _), (6, _), (7, _)]) ?_ ⟨rfl, rfl, rfl, rfl, rfl, rfl, rfl, rfl, rfl, rfl, rfl, trivial⟩
    refine WP.inBlock ?_
    refine WP.region rfl ?_
    refine WS.val rfl (LK.add rfl rfl) ?_
    refine WS.val rfl (LK.move rfl) ?_
    refine WS.nil ?_
    refine WP.sub (gs := [(0, _), (1, _), (6, _), (7, .int .i64 ((i + 1 : Nat) : Int))]) (ih (ds.length - (i + 1)) _ _ (by omega) ⟨i + 1, rfl, by omega, rfl, ?_⟩) ⟨rfl, rfl, rfl, ?_, trivial⟩
    · have := Wr.trans hE1 hv1 hw2
      rw [List.take_succ_eq_append_getElem hlt]
      simp only [encZs] at this ⊢
      rw [List.flatMap_append, List.flatMap_cons, List.flatMap_nil, List.append_nil, ← List.append_assoc]
      exact this
    · show some (LV.int .i64 _) = _
      rw [wrap_i64 (by omega) (by omega)]; rfl
  · have hd : ds.take i = ds := List.take_of_length_le (by omega)
    rw [hd] at hw1
    refine WP.seq ?_
    refine WP.region rfl ?_
    refine WS.val rfl (LK.lss rfl rfl) ?_
    refine WS.nil ?_
    refine WP.seq ?_
    refine WP.cond rfl (fun h8 => ?_) (fun h8 => ?_)
    · exfalso; have := of_decide_eq_true h8; omega
    refine WP.exit rfl ?_
    exact WP.nil rfl (Fin.ret' rfl rfl ⟨rfl, v1, hw1, hE1, hv1⟩)
theorem LK.conv_to {G : Nat} {g : Kno} {H : LH} {s d : Nat} {x : Operand} {k k' : IntKind} {a b : Int} {ks : TypeDesc} [hs : TUnd Try.prog s ks] [hd : TUnd Try.prog d (.int k')] (hx : evk g G x = some (.int k a)) (hw : k'.wrap a = b) : LK Try.prog G g H (.convert s d x) (.val (.int k' b) H) := by
  subst hw; exact LK.conv_int hx

theorem bid_keep {H : LH} {v v' d : LV} {wb n : Nat} {ls : List LV} (hd : SV H 1 d n ls) (hd1 : ∀ i, d.bid? = some i → i ≠ wb ∧ v.bid? ≠ some i) (hv : ∀ i, v'.bid? = some i → v.bid? = some i ∨ H.next ≤ i) : ∀ i, d.bid? = some i → i ≠ wb ∧ v'.bid? ≠ some i :=
  fun i hi => ⟨(hd1 i hi).1, fun h => (hv i h).elim (hd1 i hi).2 (fun h => by have := hd.lt hi; omega)⟩
section
variable {H : LH} {wb cb off : Nat} {v d : LV} {bs : List UInt8} {cs : List LV} {e : Nat} {own opn : Bool}
set_option maxHeartbeats 4000000 in
theorem wr_draws (h : WBk H wb v bs) {ds : List Nat} (hcb : cb < H.next) (hcw : cb ≠ wb) (hcv : v.bid? ≠ some cb) (hc : H.get cb = some (.cells cs e own opn)) (hx : cs[off]? = some d) (hd : SV H 1 d ds.length (u64L ds)) (hd1 : ∀ i, d.bid? = some i → i ≠ wb ∧ v.bid? ≠ some i)
    (hr : ∀ x ∈ ds, x < 2 ^ 64) (hn : ds.length ≤ 1000000000) (hl : bs.length < 5000000000000) :
    CallP Try.prog 71 [.ptr (some (wb, 0)), .ptr (some (cb, off))] H (fun o H' => o = .ret (.tuple []) ∧ Wr H H' wb v (bs ++ (encU ds.length ++ encUs ds))) := by
  refine en71 (by simp) ?_
  unfold c71
  have h1 := h.2.1
  have hl10 : (encU ds.length).length ≤ 10 := encU_len10 (by omega)
  refine WP.seq ?_
  refine WP.draw rfl ?_
  refine WD.val rfl (LK.move rfl) ?_
  refine WD.val rfl (LK.move rfl) ?_
  refine WD.val rfl (LK.nilCheck_ptr rfl) ?_
  refine WD.val rfl (LK.fieldAddr rfl rfl) ?_
  refine WD.val rfl (LK.load rfl h1 rfl) ?_
  refine WD.val rfl (LK.move rfl) ?_
  refine WD.val rfl (LK.nilCheck_ptr rfl) ?_
  refine WD.val rfl (LK.load rfl hc hx) ?_
  refine WD.val rfl (SV.len hd rfl) ?_
  refine WD.val rfl (LK.conv_to rfl (wrap_u64 (by omega) (by omega))) ?_
  (refine WD.call rfl (LK.call rfl) (fun o h => by simp only [okind, h]) (CallP.mono (uvarint H v bs ds.length h.2.2.1 (by omega) (by omega)) ?_); rintro _ Hc ⟨v2, rfl, hO, hE, hv⟩)
  refine WD.val rfl (LK.nilCheck_ptr rfl) ?_
  refine WD.val rfl (LK.fieldAddr rfl rfl) ?_
  refine WD.skip rfl (LK.store1 rfl rfl (h.get1 hE) hO.sv.cells hO.sv.one (Nat.le_refl 1)) (fun o h => by simp only [okind, h]) ?_
  refine WD.nil ?_
  refine WP.sub (gs := [(0, _), (1, _)]) ?_ ⟨rfl, rfl, trivial⟩
  obtain ⟨v3, hw1, hE1, hv1⟩ := wr_put h hO hE hv
  have hc2 := hE1.get hcb (fun hh => hh.elim hcw hcv) hc
  have hd2 := hd.ext hE1 (fun j hj hh => hh.elim (hd1 j hj).1 (hd1 j hj).2)
  have hd3 := bid_keep hd hd1 hv1
  refine WP.region rfl ?_
  refine WS.val rfl (LK.move rfl) ?_
  refine WS.val rfl (LK.nilCheck_ptr rfl) ?_
  refine WS.val rfl (LK.load rfl hc2 hx) ?_
  refine WS.val rfl (LK.move rfl) ?_
  refine WS.val rfl (LK.makeFunc rfl rfl) ?_
  (refine WS.call rfl (LK.call rfl) (CallP.mono (each_id _ wb v3 d (bs ++ encU ds.length) ds hw1 hd2 hd3 hr hn (by rw [List.length_append]; omega)) ?_); rintro _ Hc ⟨rfl, hw2⟩)
  refine WS.nil ?_
  refine WP.sub (gs := []) ?_ trivial
  exact WP.nil rfl (Fin.ret' rfl rfl ⟨rfl, by rw [← List.append_assoc]; exact Wr.trans hE1 hv1 hw2⟩)
set_option maxHeartbeats 4000000 in
theorem wr_bounds (h : WBk H wb v bs) {ds : List Int} (hcb : cb < H.next) (hcw : cb ≠ wb) (hcv : v.bid? ≠ some cb) (hc : H.get cb = some (.cells cs e own opn)) (hx : cs[off]? = some d) (hd : SV H 1 d ds.length (i64L ds)) (hd1 : ∀ i, d.bid? = some i → i ≠ wb ∧ v.bid? ≠ some i)
    (hr : ∀ x ∈ ds, In64 x) (hn : ds.length ≤ 1000000000) (hl : bs.length < 5000000000000) :
    CallP Try.prog 70 [.ptr (some (wb, 0)), .ptr (some (cb, off))] H (fun o H' => o = .ret (.tuple []) ∧ Wr H H' wb v (bs ++ (encU ds.length ++ encZs ds))) := by
  refine en70 (by simp) ?_
  unfold c70
  have h1 := h.2.1
  have hl10 : (encU ds.length).length ≤ 10 := encU_len10 (by omega)
  refine WP.seq ?_
  refine WP.draw rfl ?_
  refine WD.val rfl (LK.move rfl) ?_
  refine WD.val rfl (LK.move rfl) ?_
  refine WD.val rfl (LK.nilCheck_ptr rfl) ?_
  refine WD.val rfl (LK.fieldAddr rfl rfl) ?_
  refine WD.val rfl (LK.load rfl h1 rfl) ?_
  refine WD.val rfl (LK.move rfl) ?_
  refine WD.val rfl (LK.nilCheck_ptr rfl) ?_
  refine WD.val rfl (LK.load rfl hc hx) ?_
  refine WD.val rfl (SV.len hd rfl) ?_
  refine WD.val rfl (LK.conv_to rfl (wrap_u64 (by omega) (by omega))) ?_
  (refine WD.call rfl (LK.call rfl) (fun o h => by simp only [okind, h]) (CallP.mono (uvarint H v bs ds.length h.2.2.1 (by omega) (by omega)) ?_); rintro _ Hc ⟨v2, rfl, hO, hE, hv⟩)
  refine WD.val rfl (LK.nilCheck_ptr rfl) ?_
  refine WD.val rfl (LK.fieldAddr rfl rfl) ?_
  refine WD.skip rfl (LK.store1 rfl rfl (h.get1 hE) hO.sv.cells hO.sv.one (Nat.le_refl 1)) (fun o h => by simp only [okind, h]) ?_
  refine WD.nil ?_
  refine WP.sub (gs := [(0, _), (1, _)]) ?_ ⟨rfl, rfl, trivial⟩
  obtain ⟨v3, hw1, hE1, hv1⟩ := wr_put h hO hE hv
  have hc2 := hE1.get hcb (fun hh => hh.elim hcw hcv) hc
  have hd2 := hd.ext hE1 (fun j hj hh => hh.elim (hd1 j hj).1 (hd1 j hj).2)
  have hd3 := bid_keep hd hd1 hv1
  refine WP.region rfl ?_
  refine WS.val rfl (LK.move rfl) ?_
  refine WS.val rfl (LK.nilCheck_ptr rfl) ?_
  refine WS.val rfl (LK.load rfl hc2 hx) ?_
  refine WS.val rfl (LK.move rfl) ?_
  refine WS.val rfl (LK.makeFunc rfl rfl) ?_
  (refine WS.call rfl (LK.call rfl) (CallP.mono (each_num _ wb v3 d (bs ++ encU ds.length) ds hw1 hd2 hd3 hr hn (by rw [List.length_append]; omega)) ?_); rintro _ Hc ⟨rfl, hw2⟩)
  refine WS.nil ?_
  refine WP.sub (gs := []) ?_ trivial
  exact WP.nil rfl (Fin.ret' rfl rfl ⟨rfl, by rw [← List.append_assoc]; exact Wr.trans hE1 hv1 hw2⟩)
end

/-- What is written of a field. -/
def encF (c : LCmd) : Vk × Nat → List UInt8
  | (.id, off) => encU (if off = 1 then c.u else c.v)
  | (.num, off) => encU (zzN (if off = 3 then c.w else c.t))
  | (.draws, _) => encU c.draws.length ++ encUs c.draws
  | (.bounds, _) => encU c.bounds.length ++ encZs c.bounds
def okVs : List (Vk × Nat) := [(.id, 1), (.id, 2), (.num, 3), (.num, 4), (.draws, 5), (.bounds, 6)]
theorem vis_ok {op : Int} {l : List (Vk × Nat)} (h : vis op = some l) : ∀ p ∈ l, p ∈ okVs := by
  unfold vis at h
  repeat' (split at h)
  all_goals first
    | (cases h; done)
    | (cases h; decide)
theorem vis_range {op : Int} {l : List (Vk × Nat)} (h : vis op = some l) : 1 ≤ op ∧ op ≤ 15 := by
  unfold vis at h
  repeat' (split at h)
  all_goals first
    | (cases h; done)
    | omega
def wrF : Vk → Nat
  | .id => 72
  | .num => 73
  | .draws => 71
  | .bounds => 70
/-- The writer of a command that lies there. -/
structure WrSet (H0 : LH) (c : LCmd) (cb wb : Nat) (v0 d b : LV) (total : List UInt8) : Prop where
  ok : c.Ok
  cbn : cb < H0.next
  wbn : wb < H0.next
  cw : cb ≠ wb
  cv : v0.bid? ≠ some cb
  get : ∃ e own opn, H0.get cb = some (.cells (cells7 c.op c.u c.v c.w c.t d b) e own opn)
  sd : SV H0 1 d c.draws.length (u64L c.draws)
  sb : SV H0 1 b c.bounds.length (i64L c.bounds)
  d1 : ∀ i, d.bid? = some i → i ≠ wb ∧ v0.bid? ≠ some i
  b1 : ∀ i, b.bid? = some i → i ≠ wb ∧ v0.bid? ≠ some i
  dn : c.draws.length ≤ 1000000000
  bn : c.bounds.length ≤ 1000000000
  tot : total.length < 5000000000000

theorem wr_step {H0 H : LH} {c : LCmd} {cb wb : Nat} {v0 d b v : LV} {total bs : List UInt8} (S : WrSet H0 c cb wb v0 d b total) (hw : WBk H wb v bs) (hE : Ext H0 H (fun i => i = wb ∨ v0.bid? = some i)) (hv : ∀ i, v.bid? = some i → v0.bid? = some i ∨ H0.next ≤ i)
    (hl : bs.length < 5000000000000) {k : Vk} {off : Nat} (hp : (k, off) ∈ okVs) : CallP Try.prog (wrF k) [.ptr (some (wb, 0)), .ptr (some (cb, off))] H (fun o H' => o = .ret (.tuple []) ∧ Wr H H' wb v (bs ++ encF c (k, off))) := by
  obtain ⟨e, own, opn, hg0⟩ := S.get
  have hg := hE.get S.cbn (fun hh => hh.elim S.cw S.cv) hg0
  have hcn : cb < H.next := Nat.lt_of_lt_of_le S.cbn hE.next
  have hcv : v.bid? ≠ some cb := fun h => (hv cb h).elim S.cv (fun h => by have := S.cbn; omega)
  have hd := S.sd.ext hE (fun i hi hh => hh.elim (S.d1 i hi).1 (S.d1 i hi).2)
  have hb := S.sb.ext hE (fun i hi hh => hh.elim (S.b1 i hi).1 (S.b1 i hi).2)
  have hd1 := bid_keep S.sd S.d1 hv
  have hb1 := bid_keep S.sb S.b1 hv
  simp only [okVs, List.mem_cons, Prod.mk.injEq, List.not_mem_nil, or_false] at hp
  rcases hp with ⟨rfl, rfl⟩ | ⟨rfl, rfl⟩ | ⟨rfl, rfl⟩ | ⟨rfl, rfl⟩ | ⟨rfl, rfl⟩ | ⟨rfl, rfl⟩
  · exact wr_id hw hg rfl S.ok.u (by omega)
  · exact wr_id hw hg rfl S.ok.v (by omega)
  · exact wr_num hw hg rfl S.ok.w (by omega)
  · exact wr_num hw hg rfl S.ok.t (by omega)
  · exact wr_draws hw hcn S.cw hcv hg rfl hd hd1 S.ok.draws S.dn hl
  · exact wr_bounds hw hcn S.cw hcv hg rfl hb hb1 S.ok.bounds S.bn hl

noncomputable def writer (H0 : LH) (c : LCmd) (cb wb : Nat) (v0 d b : LV) (total : List UInt8) (S : WrSet H0 c cb wb v0 d b total) : Visitor 67 (.ptr (some (wb, 0))) cb where
  f := wrF
  I pr l H := ¬ pr wb ∧ (∀ i, pr i → i < H.next) ∧ Ext H0 H (fun i => i = wb ∨ v0.bid? = some i) ∧ ∃ v bs, WBk H wb v bs ∧ (∀ i, v.bid? = some i → v0.bid? = some i ∨ H0.next ≤ i) ∧ (∀ i, v.bid? = some i → ¬ pr i) ∧ (∀ p ∈ l, p ∈ okVs) ∧ bs ++ l.flatMap (encF c) = total
  Rp p H := False
  m1 H := by kernel_rfl
  m2 H := by kernel_rfl
  m3 H := by kernel_rfl
  m4 H := by kernel_rfl
  s2 := by kernel_rfl
  s3 := by kernel_rfl
  s4 := by kernel_rfl
  ent k := match k with
    | .id => (inferInstance : Ent Try.prog 72)
    | .num => (inferInstance : Ent Try.prog 73)
    | .draws => (inferInstance : Ent Try.prog 71)
    | .bounds => (inferInstance : Ent Try.prog 70)
  stable := by
    rintro pr l H o ⟨h1, h2, h3, v, bs, h4, h5, h6, h7⟩
    refine ⟨?_, ?_, h3.new o, v, bs, h4.new o, h5, ?_, h7⟩
    · rintro (h | h)
      · exact h1 h
      · have := h4.1; omega
    · rintro i (h | h)
      · have := h2 i h; simp; omega
      · simp; omega
    · rintro i hi (h | h)
      · exact h6 i hi h
      · have := h4.2.2.1.lt hi; omega
  less := by
    rintro pr pr' l H ⟨h1, h2, h3, v, bs, h4, h5, h6, h7⟩ h
    exact ⟨fun hh => h1 (h _ hh), fun i hi => h2 i (h i hi), h3, v, bs, h4, h5, fun i hi hh => h6 i hi (h i hh), h7⟩
  step := by
    rintro pr k off l H ⟨h1, h2, h3, v, bs, h4, h5, h6, h7, h8⟩
    have hlen : bs.length < 5000000000000 := by
      have := congrArg List.length h8
      have := S.tot
      simp only [List.length_append] at *
      omega
    refine (wr_step S h4 h3 h5 hlen (h7 _ List.mem_cons_self)).mono ?_
    rintro o H' ⟨rfl, v', g1, g2, g3⟩
    refine .inl ⟨rfl, ⟨h1, fun i hi => by have := h2 i hi; have := g2.next; omega, h3.trans g2 ?_, v', _, g1, ?_, ?_, fun p hp => h7 p (List.mem_cons_of_mem _ hp), ?_⟩, g2.next, ?_⟩
    · rintro i hi (h | h)
      · exact .inl h
      · exact (h5 i h).elim .inr (fun h => by omega)
    · intro i hi
      rcases g3 i hi with h | h
      · exact h5 i h
      · exact .inr (by have := h3.next; omega)
    · intro i hi hp
      rcases g3 i hi with h | h
      · exact h6 i h hp
      · have := h2 i hp; omega
    · rw [List.append_assoc]; rw [List.flatMap_cons] at h8; exact h8
    · intro i hi hin
      exact g2.keep i hin (fun hh => hh.elim (fun h => h1 (h ▸ hi)) (fun h => h6 i h hi))
/-- What is written of a command, behind its length. -/
def payload (c : LCmd) : List UInt8 := UInt8.ofNat c.op.toNat :: ((vis c.op).getD []).flatMap (encF c)
def putC (c : LCmd) : List UInt8 := encU (payload c).length ++ payload c
theorem encF_len {c : LCmd} (hc : c.Ok) (hd : c.draws.length ≤ 16384) (hb : c.bounds.length ≤ 1024) (p : Vk × Nat) : (encF c p).length ≤ 163850 := by
  obtain ⟨k, off⟩ := p
  cases k with
  | id =>
    have : (encU (if off = 1 then c.u else c.v)).length ≤ 10 := encU_len10 (by split; exact hc.u; exact hc.v)
    show (encU _).length ≤ _
    omega
  | num =>
    have : (encU (zzN (if off = 3 then c.w else c.t))).length ≤ 10 := encU_len10 (zzN_lt (by split; exact hc.w.1; exact hc.t.1) (by split; exact hc.w.2; exact hc.t.2))
    show (encU _).length ≤ _
    omega
  | draws =>
    have h1 : (encU c.draws.length).length ≤ 10 := encU_len10 (by omega)
    have h2 := encUs_len hc.draws
    show (encU _ ++ encUs _).length ≤ _
    rw [List.length_append]; omega
  | bounds =>
    have h1 : (encU c.bounds.length).length ≤ 10 := encU_len10 (by omega)
    have h2 := encZs_len hc.bounds
    show (encU _ ++ encZs _).length ≤ _
    rw [List.length_append]; omega
theorem flat_len {c : LCmd} {K : Nat} : ∀ {l : List (Vk × Nat)}, (∀ p ∈ l, (encF c p).length ≤ K) → (l.flatMap (encF c)).length ≤ K * l.length
  | [], _ => by simp
  | p :: l, h => by
    have h1 := h p List.mem_cons_self
    have h2 := flat_len (l := l) (fun q hq => h q (List.mem_cons_of_mem _ hq))
    rw [List.flatMap_cons, List.length_append, List.length_cons, Nat.mul_add]
    omega
theorem vis_len {op : Int} {l : List (Vk × Nat)} (h : vis op = some l) : l.length ≤ 4 := by
  unfold vis at h
  repeat' (split at h)
  all_goals first
    | (cases h; done)
    | (cases h; decide)
theorem checkC_zero {c : LCmd} (h : checkC c = 0) : ∃ l, vis c.op = some l ∧ c.draws.length ≤ 16384 ∧ c.bounds.length ≤ 1024 := by
  unfold checkC at h
  split at h
  · cases h
  · rename_i l hl
    split at h
    · cases h
    · split at h
      · cases h
      · exact ⟨l, hl, by omega, by omega⟩
theorem payload_len {c : LCmd} (hc : c.Ok) (h : checkC c = 0) : (payload c).length ≤ 1000000 := by
  obtain ⟨l, hl, h1, h2⟩ := checkC_zero h
  have h3 := flat_len (c := c) (l := l) (fun p _ => encF_len hc h1 h2 p)
  have h4 := vis_len hl
  unfold payload
  rw [hl, List.length_cons, Option.getD_some]
  have : 163850 * l.length ≤ 163850 * 4 := Nat.mul_le_mul_left _ h4
  omega

theorem fields_write {H : LH} {c : LCmd} {cb wb : Nat} {v0 d b : LV} {total bs0 : List UInt8} (S : WrSet H c cb wb v0 d b total) (hw : WBk H wb v0 bs0) {l : List (Vk × Nat)} (hl : vis c.op = some l) (ht : bs0 ++ l.flatMap (encF c) = total) :
    CallP Try.prog 33 [.ptr (some (cb, 0)), .iface 67 (.ptr (some (wb, 0)))] H (fun o H' => o = .ret (.bool true) ∧ ∃ v, WBk H' wb v total ∧ Ext H H' (fun i => i = wb ∨ v0.bid? = some i) ∧ (∀ i, v.bid? = some i → v0.bid? = some i ∨ H.next ≤ i)) := by
  obtain ⟨e, own, opn, hg⟩ := S.get
  refine (fields (writer H c cb wb v0 d b total S) c.op H S.cbn hg rfl ?_).mono ?_
  · intro l' hl'
    rw [hl] at hl'
    cases hl'
    exact ⟨fun h => h, fun i h => h.elim, Ext.refl _ _, v0, bs0, hw, fun i hi => .inl hi, fun i hi h => h, vis_ok hl, ht⟩
  · rintro o H' (⟨l', hl', rfl, pr, h1, h2, h3, v, bs, h4, h5, h6, h7, h8⟩ | ⟨hn, rfl, hE⟩ | ⟨p, rfl, hp⟩)
    · have h9 : bs = total := by simpa using h8
      subst h9
      exact ⟨rfl, v, h4, h3, h5⟩
    · rw [hl] at hn; cases hn
    · exact hp.elim

set_option maxHeartbeats 4000000 in
theorem put (H : LH) (c : LCmd) (hc : c.Ok) (cs : List LV) (hcs : CmdC H c cs) : CallP Try.prog 22 [.agg cs] H (fun o H' => Ext H H' none' ∧
    ((checkC c ≠ 0 ∧ o = .ret (.tuple [.slice none 0 (.ex 0), .int .i64 (checkC c)])) ∨ (checkC c = 0 ∧ ∃ v, o = .ret (.tuple [v, .int .i64 0]) ∧ OB H' v (putC c) ∧ ∀ i, v.bid? = some i → H.next ≤ i))) := by
  obtain ⟨d, b, rfl, hd, hb⟩ := hcs
  have hone : (cells7 c.op c.u c.v c.w c.t d b).all oneCell = true := cells7_one (SV.one hd) (SV.one hb)
  refine en22 (by simp) ?_
  unfold c22
  generalize hH1 : H.new (.cells (cells7 c.op c.u c.v c.w c.t d b) 28 true false) = H1
  have hE1 : Ext H H1 none' := by rw [← hH1]; exact (Ext.refl _ _).new _
  have hn1 : H1.next = H.next + 1 := by rw [← hH1]; rfl
  have hg1 : H1.get H.next = some (.cells (cells7 c.op c.u c.v c.w c.t d b) 28 true false) := by rw [← hH1]; exact get_new_self
  have hd1 : SV H1 1 d c.draws.length (u64L c.draws) := by rw [← hH1]; exact hd.newo _
  have hb1 : SV H1 1 b c.bounds.length (i64L c.bounds) := by rw [← hH1]; exact hb.newo _
  refine WP.seq ?_
  refine WP.region rfl ?_
  refine WS.val rfl (LK.box rfl hone) ?_
  refine WS.val rfl (LK.assign rfl) ?_
  refine WS.val rfl (LK.assign rfl) ?_
  refine WS.nil ?_
  refine WP.sub (gs := [(3, _), (2, _), (1, _)]) ?_ ⟨rfl, rfl, rfl, trivial⟩
  refine WP.seq ?_
  refine WP.seq ?_
  refine (?_ : WP Try.prog _ _ _ (H.new (.cells (cells7 c.op c.u c.v c.w c.t d b) 28 true false)) _)
  rw [hH1]
  refine WP.region rfl ?_
  refine WS.val rfl (LK.load_agg rfl hg1 (Nat.le_refl 7) rfl) ?_
  (refine WS.call rfl (LK.call rfl) (CallP.mono (check H1 c _ ⟨d, b, rfl, hd1, hb1⟩) ?_); rintro _ Hc ⟨rfl, hE2⟩)
  refine WS.val rfl (LK.assign rfl) ?_
  refine WS.nil ?_
  refine WP.sub (gs := [(4, _), (3, _), (2, _), (1, _)]) ?_ ⟨rfl, rfl, rfl, rfl, trivial⟩
  refine WP.seq ?_
  refine WP.region rfl ?_
  refine WS.val rfl (LK.move rfl) ?_
  refine WS.val rfl (LK.neq rfl rfl) ?_
  refine WS.nil ?_
  refine WP.sub (gs := [(9, _), (4, _), (3, _), (2, _), (1, _)]) ?_ ⟨rfl, rfl, rfl, rfl, rfl, trivial⟩
  refine WP.cond rfl (fun h9 => ?_) (fun h9 => ?_)
  · skip
    refine WP.seq ?_
    refine WP.region rfl ?_
    refine WS.val rfl (LK.move rfl) ?_
    refine WS.val rfl (LK.assign rfl) ?_
    refine WS.val rfl (LK.assign rfl) ?_
    refine WS.nil ?_
    refine WP.sub (gs := [(3, _), (2, _), (1, _)]) ?_ ⟨rfl, rfl, rfl, trivial⟩
    first
      | (have hne : checkC c ≠ 0 := by simpa using h9
         exact WP.ret rfl (Fin.ret' rfl rfl ⟨hE1.trans hE2 (fun i _ h => h), .inl ⟨hne, rfl⟩⟩))
      | (have k1 : Ext H H3 none' := hE1.trans (hE2.trans hE3 (fun i _ h => h)) (fun i _ h => h)
         have k2 : Ext H H4 none' := k1.trans hE4 (fun i hi h => by
           rcases h with h | h
           · omega
           · simp [LV.bid?] at h
             omega)
         have k3 : Ext H Hc none' := k2.trans hE5 (fun i hi h => by cases h)
         have n2 := k2.next
         have n3 := k3.next
         have k4 : Ext H H6 none' := k3.trans hE6 (fun i hi h => (hv5 i h).elim (fun h => by cases h) (fun h => by omega))
         refine WP.ret rfl (Fin.ret' rfl rfl ⟨k4, .inr ⟨hz, v6, rfl, by unfold putC; simpa using hO6, fun i hi => ?_⟩⟩)
         rcases hv6 i hi with h | h
         · rcases hv5 i h with h | h
           · cases h
           · omega
         · omega)
  refine WP.skip ?_
  refine WP.seq ?_
  have hz : checkC c = 0 := by simpa using h9
  obtain ⟨l, hl, hdn, hbn⟩ := checkC_zero hz
  have hr := vis_range hl
  have hpl := payload_len hc hz
  have hgc : Hc.get H.next = some (.cells (cells7 c.op c.u c.v c.w c.t d b) 28 true false) := hE2.get (by omega) (fun h => h) hg1
  have hnc := hE2.next
  have hbyte : IntKind.u8.wrap c.op = ((UInt8.ofNat c.op.toNat).toNat : Int) := by rw [wrap_u8_mod]; simp; omega
  generalize hH3 : (Hc.new (.cells [.int .u8 (UInt8.ofNat c.op.toNat).toNat] 5 true false)).new (.cells [.slice (some (Hc.next, 0)) 1 (.ex 1)] 69 true false) = H3
  have hE3 : Ext Hc H3 none' := by rw [← hH3]; exact ((Ext.refl _ _).new _).new _
  have hn3 : H3.next = Hc.next + 2 := by rw [← hH3]; rfl
  have hw3 : WBk H3 (Hc.next + 1) (.slice (some (Hc.next, 0)) 1 (.ex 1)) [UInt8.ofNat c.op.toNat] := by
    refine ⟨by omega, by rw [← hH3]; exact get_new_self, ?_, fun i hi => by simp [LV.bid?] at hi; omega⟩
    rw [← hH3]
    exact (Own.full (n := 1) (sz := 1) rfl).new _
  have hEc : Ext H1 H3 none' := hE2.trans hE3 (fun i _ h => h)
  have hfar : ∀ i, i < H1.next → i ≠ Hc.next + 1 ∧ (LV.slice (some (Hc.next, 0)) 1 (.ex 1)).bid? ≠ some i := fun i hi => ⟨by omega, by simp [LV.bid?]; omega⟩
  have S : WrSet H3 c H.next (Hc.next + 1) (.slice (some (Hc.next, 0)) 1 (.ex 1)) d b (payload c) :=
    { ok := hc, cbn := by omega, wbn := by omega, cw := by omega, cv := (hfar _ (by omega)).2, get := ⟨_, _, _, hE3.get (by omega) (fun h => h) hgc⟩,
      sd := hd1.ext hEc (fun i _ h => h), sb := hb1.ext hEc (fun i _ h => h), d1 := fun i hi => hfar i (hd1.lt hi), b1 := fun i hi => hfar i (hb1.lt hi), dn := by omega, bn := by omega, tot := by omega }
  have ht : [UInt8.ofNat c.op.toNat] ++ l.flatMap (encF c) = payload c := by unfold payload; rw [hl]; rfl
  refine WP.region rfl ?_
  refine WS.val rfl (LK.fieldAddr rfl rfl) ?_
  refine WS.val rfl (LK.load rfl hgc rfl) ?_
  refine WS.val rfl (LK.conv_to rfl hbyte) ?_
  refine WS.val rfl (LK.buildSlice rfl rfl rfl) ?_
  refine WS.val rfl (LK.build_s rfl rfl) ?_
  refine WS.val rfl (LK.box rfl rfl) ?_
  refine WS.val rfl (LK.assign rfl) ?_
  refine WS.nil ?_
  refine WP.sub (gs := [(5, _), (3, _), (2, _), (1, _)]) ?_ ⟨rfl, rfl, rfl, rfl, trivial⟩
  refine WP.seq ?_
  refine (?_ : WP Try.prog _ _ _ ((Hc.new (.cells [.int .u8 (UInt8.ofNat c.op.toNat).toNat] 5 true false)).new (.cells [.slice (some (Hc.next, 0)) 1 (.ex 1)] 69 true false)) _)
  rw [hH3]
  refine WP.region rfl ?_
  refine WS.val rfl (LK.move rfl) ?_
  refine WS.val rfl (LK.makeInterface rfl) ?_
  (refine WS.call rfl (LK.call rfl) (CallP.mono (fields_write (wb := Hc.next + 1) S hw3 hl ht) ?_); rintro _ Hc ⟨rfl, v, hw, hE4, hv4⟩)
  refine WS.nil ?_
  refine WP.sub (gs := [(5, _), (3, _), (2, _)]) ?_ ⟨rfl, rfl, rfl, trivial⟩
  refine WP.seq ?_
  rename LH => H4
  have hw1 := hw.2.1
  refine WP.conf rfl ?_
  refine WC.val rfl (LK.move rfl) (fun o h => .inl (by simp only [okind, h])) ?_
  refine WC.val rfl (LK.nilCheck_ptr rfl) (fun o h => .inl (by simp only [okind, h])) ?_
  refine WC.val rfl (LK.fieldAddr rfl rfl) (fun o h => .inl (by simp only [okind, h])) ?_
  refine WC.read rfl (LK.load rfl hw1 rfl) (fun o h => by simp only [okind, h]) (by first | exact trivial | exact ⟨.inl rfl, trivial⟩ | exact ⟨.inl rfl, .inl rfl, trivial⟩ | exact ⟨.inl rfl, .inl rfl, .inl rfl, trivial⟩ | exact ⟨.inl rfl, .inl rfl, .inl rfl, .inl rfl, trivial⟩ | exact ⟨.inr ⟨_, LK.load rfl hw1 rfl⟩, trivial⟩) ?_
  refine WC.val rfl (SV.len hw.2.2.1.sv rfl) (fun o h => .inl (by simp only [okind, h, TUnd.out (P := Try.prog) (t := 22)])) ?_
  refine WC.val rfl (LK.conv_to (b := ((payload c).length : Int)) rfl (wrap_u64 (by omega) (by omega))) (fun o h => by first | exact .inl (by simp only [okind, h, TUnd.out (P := Try.prog) (t := 3), TUnd.out (P := Try.prog) (t := 24)] <;> done) | exact .inr (by simp only [okind, h, TUnd.out (P := Try.prog) (t := 3), TUnd.out (P := Try.prog) (t := 24)] <;> done)) ?_
  (refine WC.call rfl (LK.call rfl) (fun o h => by simp only [okind, h]) (CallP.mono (uvarint H4 _ [] (payload c).length (Own.nil H4 1 5) (by omega) (by simp)) ?_); rintro _ Hc ⟨v5, rfl, hO5, hE5, hv5⟩; refine ⟨(by first | exact trivial | exact ⟨.inl rfl, trivial⟩ | exact ⟨.inl rfl, .inl rfl, trivial⟩ | exact ⟨.inl rfl, .inl rfl, .inl rfl, trivial⟩ | exact ⟨.inl rfl, .inl rfl, .inl rfl, .inl rfl, trivial⟩ | exact ⟨.inr ⟨_, LK.load rfl hw1 rfl⟩, trivial⟩), ?_⟩; have hw5 := hE5.get hw.1 (fun h => by cases h) hw1; obtain ⟨v6, H6, ha, hO6, hE6, hv6⟩ := OB.append hO5 (hw.2.2.1.sv.ext hE5 (fun i _ h => by cases h)) (by have := encU_len10 (x := (payload c).length) (by omega); simp only [List.nil_append]; omega))
  refine WC.val rfl (LK.move rfl) (fun o h => .inl (by simp only [okind, h])) ?_
  refine WC.val rfl (LK.nilCheck_ptr rfl) (fun o h => .inl (by simp only [okind, h])) ?_
  refine WC.val rfl (LK.fieldAddr rfl rfl) (fun o h => .inl (by simp only [okind, h])) ?_
  refine WC.read rfl (LK.load rfl hw5 rfl) (fun o h => by simp only [okind, h]) (by first | exact trivial | exact ⟨.inl rfl, trivial⟩ | exact ⟨.inl rfl, .inl rfl, trivial⟩ | exact ⟨.inl rfl, .inl rfl, .inl rfl, trivial⟩ | exact ⟨.inl rfl, .inl rfl, .inl rfl, .inl rfl, trivial⟩ | exact ⟨.inr ⟨_, LK.load rfl hw1 rfl⟩, trivial⟩) ?_
  refine WC.mut rfl (LK.builtin rfl ha) (fun o h => by simp only [okind, h]) (by first | exact trivial | exact ⟨.inl rfl, trivial⟩ | exact ⟨.inl rfl, .inl rfl, trivial⟩ | exact ⟨.inl rfl, .inl rfl, .inl rfl, trivial⟩ | exact ⟨.inl rfl, .inl rfl, .inl rfl, .inl rfl, trivial⟩ | exact ⟨.inr ⟨_, LK.load rfl hw1 rfl⟩, trivial⟩) ?_
  refine WC.val rfl (LK.assign rfl) (fun o h => .inl (by simp only [okind, h])) ?_
  refine WC.val rfl (LK.assign rfl) (fun o h => .inl (by simp only [okind, h])) ?_
  refine WC.nil ?_
  refine WP.sub (gs := [(3, _), (2, _)]) ?_ ⟨rfl, rfl, trivial⟩
  first
    | (have hne : checkC c ≠ 0 := by simpa using h9
       exact WP.ret rfl (Fin.ret' rfl rfl ⟨hE1.trans hE2 (fun i _ h => h), .inl ⟨hne, rfl⟩⟩))
    | (have k1 : Ext H H3 none' := hE1.trans (hE2.trans hE3 (fun i _ h => h)) (fun i _ h => h)
       have k2 : Ext H H4 none' := k1.trans hE4 (fun i hi h => by
         rcases h with h | h
         · omega
         · simp [LV.bid?] at h
           omega)
       have k3 : Ext H Hc none' := k2.trans hE5 (fun i hi h => by cases h)
       have n2 := k2.next
       have n3 := k3.next
       have k4 : Ext H H6 none' := k3.trans hE6 (fun i hi h => (hv5 i h).elim (fun h => by cases h) (fun h => by omega))
       refine WP.ret rfl (Fin.ret' rfl rfl ⟨k4, .inr ⟨hz, v6, rfl, by unfold putC; simpa using hO6, fun i hi => ?_⟩⟩)
       rcases hv6 i hi with h | h
       · rcases hv5 i h with h | h
         · cases h
         · omega
       · omega)
end Go.Proofs.Ythakgknamfopcaa
