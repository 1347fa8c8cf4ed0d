/- Walks of the journal: Read. -/
import Derived.Test.YthakgknamfopcaaJrD
namespace Go.Proofs.Ythakgknamfopcaa
open Go Go.Lv
set_option linter.unusedVariables false
set_option maxRecDepth 100000

theorem records (H : LH) (b : LV) (hb : oneCell b = true) (hbc : b.cells = [b]) : CallP Try.prog 23 [b] H (fun o H' => H' = H.new (.cells [b] 22 true false) ∧ o = .ret (.func (.func 35) [] [.ptr (some (H.next, 0))])) := by
  refine en23 (by simp) ?_
  unfold c23
  refine WP.seq ?_
  refine WP.region rfl ?_
  refine WS.val rfl (LK.box rfl (by rw [hbc]; show (oneCell b && true) = true; rw [hb]; rfl)) ?_
  refine WS.val rfl (LK.assign rfl) ?_
  refine WS.nil ?_
  refine WP.sub (gs := [(2, _), (1, _)]) ?_ ⟨rfl, rfl, trivial⟩
  refine WP.seq ?_
  refine WP.region rfl ?_
  refine WS.val rfl (LK.makeFunc rfl rfl) ?_
  refine WS.val rfl (LK.assign rfl) ?_
  refine WS.nil ?_
  refine WP.sub (gs := [(2, _)]) ?_ ⟨rfl, trivial⟩
  exact WP.ret rfl (Fin.ret' rfl rfl ⟨by rw [← hbc], rfl⟩)

/-- These cells are those commands, one behind the other. -/
def CmdsC (H : LH) : List LCmd → List LV → Prop
  | [], ls => ls = []
  | c :: cl, ls => ∃ cs rest, ls = cs ++ rest ∧ CmdC H c cs ∧ CmdsC H cl rest
theorem CmdsC.ext {H H' : LH} {W : Nat → Prop} (hE : Ext H H' W) : ∀ {cl : List LCmd} {ls : List LV}, CmdsC H cl ls → (∀ x ∈ ls, ∀ i, x.bid? = some i → ¬ W i) → CmdsC H' cl ls
  | [], ls, h, _ => h
  | c :: cl, ls, ⟨cs, rest, e, h1, h2⟩, hw => by
    subst e
    exact ⟨cs, rest, rfl, h1.ext hE (fun x hx => hw x (List.mem_append_left _ hx)), CmdsC.ext hE h2 (fun x hx => hw x (List.mem_append_right _ hx))⟩
theorem CmdsC.snoc {H : LH} {c : LCmd} {cs : List LV} (hc : CmdC H c cs) : ∀ {cl : List LCmd} {ls : List LV}, CmdsC H cl ls → CmdsC H (cl ++ [c]) (ls ++ cs)
  | [], ls, h => by
    have h : ls = [] := h
    subst h
    exact ⟨cs, [], by simp, hc, rfl⟩
  | d :: cl, ls, ⟨ds, rest, e, h1, h2⟩ => by
    subst e
    exact ⟨ds, rest ++ cs, by rw [List.append_assoc], h1, CmdsC.snoc hc h2⟩
theorem CmdsC.len {H : LH} : ∀ {cl : List LCmd} {ls : List LV}, CmdsC H cl ls → ls.length = cl.length * 7
  | [], ls, h => by
    have h : ls = [] := h
    subst h; rfl
  | c :: cl, ls, ⟨cs, rest, e, h1, h2⟩ => by
    subst e
    rw [List.length_append, cmd_len h1, CmdsC.len h2, List.length_cons]; omega
theorem CmdsC.one {H : LH} : ∀ {cl : List LCmd} {ls : List LV}, CmdsC H cl ls → ls.all oneCell = true
  | [], ls, h => by
    have h : ls = [] := h
    subst h; rfl
  | c :: cl, ls, ⟨cs, rest, e, h1, h2⟩ => by
    subst e
    rw [List.all_append, cmd_one h1, CmdsC.one h2]; rfl
/-- The command there. -/
theorem CmdsC.at {H : LH} : ∀ {cl : List LCmd} {ls : List LV} {k : Nat} {c : LCmd}, CmdsC H cl ls → cl[k]? = some c → CmdC H c ((ls.drop (k * 7)).take 7)
  | [], ls, k, c, h, hk => by simp at hk
  | d :: cl, ls, 0, c, ⟨ds, rest, e, h1, h2⟩, hk => by
    subst e
    simp at hk
    subst hk
    rw [Nat.zero_mul, List.drop_zero, List.take_append_of_le_length (by rw [cmd_len h1]; omega), List.take_of_length_le (by rw [cmd_len h1]; omega)]
    exact h1
  | d :: cl, ls, k + 1, c, ⟨ds, rest, e, h1, h2⟩, hk => by
    subst e
    have := CmdsC.at (k := k) h2 (by simpa using hk)
    have e1 : (k + 1) * 7 = ds.length + k * 7 := by rw [cmd_len h1]; omega
    rw [e1, List.drop_append]
    have e2 : ds.drop (ds.length + k * 7) = [] := List.drop_eq_nil_of_le (by omega)
    rw [e2, List.nil_append, Nat.add_sub_cancel_left]
    exact this

theorem OC.append {H : LH} {v x : LV} {n m : Nat} {ls xs : List LV} (h : Lv.Own H 7 28 v n ls) (hx : SV H 7 x m xs) (hone : xs.all oneCell = true) (hl : n + m ≤ 100000000000) :
    ∃ v' H', builtinL Try.prog H .append [30, 30] [v, x] = some (.val v' H') ∧ Lv.Own H' 7 28 v' (n + m) (ls ++ xs) ∧ Ext H H' (fun i => v.bid? = some i) ∧ (∀ i, v'.bid? = some i → v.bid? = some i ∨ H.next ≤ i) := by
  exact Lv.Own.append (P := Try.prog) (t := 30) (t' := 30) (sz := 7) (e := 28) (by omega) (by omega) rfl h hx hone (by unfold growMax; omega)

def lastFin (rs : List Rec) : Nat := (rs.getLast?.map (·.fin)).getD 0
theorem lastFin_snoc (rs : List Rec) (r : Rec) : lastFin (rs ++ [r]) = r.fin := by simp [lastFin]

/-- The reading consumer. -/
structure RdJ (l lv gv : Nat) (lo : LO) (F D : Nat → Prop) (done : List Rec) (H : LH) (v : LV) (ls : List LV) : Prop where
  fs : ∀ i, F i ↔ (i = l ∨ i = lv ∨ i = gv ∨ v.bid? = some i)
  ne : l ≠ lv ∧ l ≠ gv ∧ lv ≠ gv ∧ l < H.next ∧ lv < H.next ∧ gv < H.next
  vb : ∀ i, v.bid? = some i → i ≠ l ∧ i ≠ lv ∧ i ≠ gv
  gl : H.get l = some lo
  glv : H.get lv = some (.cells [v] 30 true false)
  ggv : H.get gv = some (.cells [.int .i64 (lastFin done : Int)] 3 true false)
  ow : Lv.Own H 7 28 v done.length ls
  cm : CmdsC H (done.map (·.c)) ls
  ok : ∀ r ∈ done, r.c.Ok
  ds : ∀ x ∈ ls, ∀ i, x.bid? = some i → D i ∧ ¬ F i
  dn : ∀ i, D i → i < H.next
noncomputable def readLoop (st : LoopState) (env : Env) (mk : Nat) : LO := .loop st none 16 env [7] r16_2 (.block 1 (.seq r16_3 r16_4)) mk

set_option maxHeartbeats 8000000 in
theorem read_round {l lv gv mk : Nat} {env : Env} (e1 : env.n = 17) (e2 : env.g = Try.prog.globals.size) (e3 : EK [(2, .ptr (some (lv, 0))), (3, .ptr (some (gv, 0)))] env) {F D : Nat → Prop} {done : List Rec} {H : LH} {v : LV} {ls : List LV} (J : RdJ l lv gv (readLoop .ready env mk) F D done H v ls)
    {r : Rec} {cells : List LV} (hr : RecV H r cells) (hfar : ∀ x ∈ cells, ∀ i, x.bid? = some i → ¬ F i) (hdl : done.length < 2 ^ 36) :
    RoundP Try.prog l [.agg cells] H (fun o H' => o = .ret (.bool true) ∧ ∃ F' D', (∃ v' ls', RdJ l lv gv (readLoop .ready env mk) F' D' (done ++ [r]) H' v' ls') ∧ Ext H H' F ∧ (∀ i, F' i → F i ∨ H.next ≤ i) ∧ (∀ i, D' i → D i ∨ H.next ≤ i ∨ ∃ x ∈ cells, x.bid? = some i)) := by
  obtain ⟨cs, rfl, hok, hcm, hsl⟩ := hr
  obtain ⟨d, b, rfl, hd, hb⟩ := id hcm
  have hone7 := cmd_one hcm
  have hone12 : (cells7 r.c.op r.c.u r.c.v r.c.w r.c.t d b ++ (.int .i64 (r.fin : Int) :: bytesL r.sum)).all oneCell = true := by
    rw [List.all_append, hone7, List.all_cons, bytesL_one]; rfl
  have hlen12 : (cells7 r.c.op r.c.u r.c.v r.c.w r.c.t d b ++ (.int .i64 (r.fin : Int) :: bytesL r.sum)).length = 12 := by
    rw [List.length_append, List.length_cons, bytesL_length, hsl]; rfl
  obtain ⟨n1, n2, n3, n4, n5, n6⟩ := J.ne
  refine RoundP.enter (N := 17) (G := Try.prog.globals.size) J.gl rfl e1 e2 e3 (by decide) ?_
  show WP Try.prog _ _ [(7, .agg (cells7 r.c.op r.c.u r.c.v r.c.w r.c.t d b ++ (.int .i64 (r.fin : Int) :: bytesL r.sum))), (2, .ptr (some (lv, 0))), (3, .ptr (some (gv, 0)))] _ _
  generalize hH1 : (H.new (.cells zero12 55 true false)).put H.next (.cells (cells7 r.c.op r.c.u r.c.v r.c.w r.c.t d b ++ (.int .i64 (r.fin : Int) :: bytesL r.sum)) 55 true false) = H1
  have hn1 : H1.next = H.next + 1 := by rw [← hH1]; rfl
  have hE1 : Ext H H1 none' := by rw [← hH1]; exact ((Ext.refl _ _).new _).put _ (fun h => by omega)
  have hg1 : H1.get H.next = some (.cells (cells7 r.c.op r.c.u r.c.v r.c.w r.c.t d b ++ (.int .i64 (r.fin : Int) :: bytesL r.sum)) 55 true false) := by rw [← hH1]; exact get_put_self
  have hl1 : H1.get l = some (readLoop .ready env mk) := hE1.get n4 (fun h => h) J.gl
  generalize hH2 : H1.put l (readLoop .busy env mk) = H2
  have hn2 : H2.next = H1.next := by rw [← hH2]; rfl
  have hE2 : Ext H1 H2 (fun i => i = l) := by rw [← hH2]; exact Ext.put1 _ _ _
  have hg2 : H2.get H.next = some (.cells (cells7 r.c.op r.c.u r.c.v r.c.w r.c.t d b ++ (.int .i64 (r.fin : Int) :: bytesL r.sum)) 55 true false) := hE2.get (by omega) (by omega) hg1
  have hlv2 : H2.get lv = some (.cells [v] 30 true false) := hE2.get (by omega) (fun h => n1 h.symm) (hE1.get n5 (fun h => h) J.glv)
  have hO2 := (J.ow.ext hE1 (fun i _ h => h)).ext hE2 (fun i hi h => (J.vb i hi).1 h)
  have hO3 := hO2.new (.cells (cells7 r.c.op r.c.u r.c.v r.c.w r.c.t d b) 28 true false)
  have hS3 : SV (H2.new (.cells (cells7 r.c.op r.c.u r.c.v r.c.w r.c.t d b) 28 true false)) 7 (.slice (some (H2.next, 0)) 1 (.ex 1)) 1 (cells7 r.c.op r.c.u r.c.v r.c.w r.c.t d b) := SV.new (n := 1) (sz := 7) (cs := cells7 r.c.op r.c.u r.c.v r.c.w r.c.t d b) (Nat.le_refl _) (by simp [cells7])
  obtain ⟨v6, H6, ha, hO6, hE6, hv6⟩ := OC.append hO3 hS3 hone7 (by omega)
  have hn6 := hE6.next
  have hvlt : ∀ i, v.bid? = some i → i < H.next := fun i hi => J.ow.lt hi
  have hE26 : Ext H H6 (fun i => i = l ∨ v.bid? = some i) := (((hE1.mono (W' := fun i => i = l ∨ v.bid? = some i) (fun i _ h => h.elim)).trans hE2 (fun i _ h => .inl h)).new _).trans hE6 (fun i _ h => .inr h)
  have hlv6 : H6.get lv = some (.cells [v] 30 true false) := hE26.get n5 (fun h => h.elim (fun h => n1 h.symm) (fun h => (J.vb lv h).2.1 rfl)) J.glv
  have hg6 : H6.get H.next = some (.cells (cells7 r.c.op r.c.u r.c.v r.c.w r.c.t d b ++ (.int .i64 (r.fin : Int) :: bytesL r.sum)) 55 true false) := by
    rw [hE6.keep _ (by simp; omega) (fun h => by have := hvlt _ h; omega), get_new_old (by omega)]; exact hg2
  generalize hH7 : H6.put lv (.cells [v6] 30 true false) = H7
  have hn7 : H7.next = H6.next := by rw [← hH7]; rfl
  have hE7 : Ext H6 H7 (fun i => i = lv) := by rw [← hH7]; exact Ext.put1 _ _ _
  have hn26 := hE26.next
  have hg7 := hE7.get (i := H.next) (by simp at hn6; omega) (by omega) hg6
  have hgv7 : H7.get gv = some (.cells [.int .i64 (lastFin done : Int)] 3 true false) := by
    rw [hE7.keep _ (by omega) (fun h => n3 h.symm)]
    exact hE26.get n6 (fun h => h.elim (fun h => n2 h.symm) (fun h => (J.vb gv h).2.2 rfl)) J.ggv
  generalize hH8 : H7.put gv (.cells [.int .i64 (r.fin : Int)] 3 true false) = H8
  have hn8 : H8.next = H7.next := by rw [← hH8]; rfl
  have hE8 : Ext H7 H8 (fun i => i = gv) := by rw [← hH8]; exact Ext.put1 _ _ _
  have hl8 : H8.get l = some (readLoop .busy env mk) := by
    rw [hE8.keep _ (by omega) n2, hE7.keep _ (by omega) n1, hE6.keep _ (by simp; omega) (fun h => (J.vb l h).1 rfl), get_new_old (by omega), ← hH2]; exact get_put_self
  have hfill : fillL (fun i => some (i * 7, 7)) (zerosL 1 (LV.agg zero7).cells) [(0, .agg (cells7 r.c.op r.c.u r.c.v r.c.w r.c.t d b))] = some (cells7 r.c.op r.c.u r.c.v r.c.w r.c.t d b) := rfl
  refine WP.region rfl ?_
  refine WS.val rfl (LK.alloc) ?_
  refine WS.skip rfl (LK.store (n := 12) rfl rfl get_new_self hlen12 hone12 (Nat.le_refl 12)) ?_
  refine WS.nil ?_
  refine (?_ : WP Try.prog _ _ _ ((H.new (.cells zero12 55 true false)).put H.next (.cells (splice zero12 0 (cells7 r.c.op r.c.u r.c.v r.c.w r.c.t d b ++ (.int .i64 (r.fin : Int) :: bytesL r.sum))) 55 true false)) _)
  rw [splice_all (by rw [hlen12]; rfl), hH1]
  refine WP.beginRound rfl hl1 ?_
  refine (?_ : WP Try.prog _ _ _ (H1.put l (readLoop .busy env mk)) _)
  rw [hH2]
  refine WP.block ?_
  refine WP.seq ?_
  refine WP.region rfl ?_
  refine WS.val rfl (LK.load rfl hlv2 rfl) ?_
  refine WS.val rfl (LK.fieldAddr rfl rfl) ?_
  refine WS.val rfl (LK.load_agg (xs := cells7 r.c.op r.c.u r.c.v r.c.w r.c.t d b) rfl hg2 (by rw [hlen12]; decide) rfl) ?_
  refine WS.val rfl (LK.buildSlice rfl rfl hfill) ?_
  refine WS.val rfl (LK.builtin rfl ha) ?_
  refine WS.skip rfl (LK.store1 rfl rfl hlv6 hO6.sv.cells hO6.sv.one (Nat.le_refl 1)) ?_
  refine WS.nil ?_
  refine WP.sub (gs := [(4, _), (2, _), (3, _)]) ?_ ⟨rfl, rfl, rfl, trivial⟩
  refine (?_ : WP Try.prog _ _ _ (H6.put lv (.cells [v6] 30 true false)) _)
  rw [hH7]
  refine WP.region rfl ?_
  refine WS.val rfl (LK.fieldAddr rfl rfl) ?_
  refine WS.val rfl (LK.load rfl hg7 rfl) ?_
  refine WS.skip rfl (LK.store1 rfl rfl hgv7 rfl rfl (Nat.le_refl 1)) ?_
  refine WS.nil ?_
  refine WP.sub (gs := [(2, _), (3, _)]) ?_ ⟨rfl, rfl, trivial⟩
  refine WP.inBlock ?_
  refine (?_ : WP Try.prog _ _ _ (H7.put gv (.cells [.int .i64 (r.fin : Int)] 3 true false)) _)
  rw [hH8]
  have hE9 : Ext H8 (H8.put l (readLoop .ready env mk)) (fun i => i = l) := Ext.put1 _ _ _
  have hEE : Ext H H8 F := ((hE26.mono (W' := F) (fun i _ h => (J.fs i).2 (h.elim .inl (fun h => .inr (.inr (.inr h)))))).trans hE7 (fun i _ h => (J.fs i).2 (.inr (.inl h)))).trans hE8 (fun i _ h => (J.fs i).2 (.inr (.inr (.inl h))))
  have hEE9 : Ext H (H8.put l (readLoop .ready env mk)) F := hEE.trans hE9 (fun i _ h => (J.fs i).2 (.inl h))
  have hnv6 : ∀ i, v6.bid? = some i → i ≠ l ∧ i ≠ lv ∧ i ≠ gv := fun i hi => by
    rcases hv6 i hi with h | h
    · exact J.vb i h
    · simp at h; omega
  have hcells : ∀ x ∈ ls ++ cells7 r.c.op r.c.u r.c.v r.c.w r.c.t d b, ∀ i, x.bid? = some i → (D i ∨ ∃ x ∈ (cells7 r.c.op r.c.u r.c.v r.c.w r.c.t d b ++ (.int .i64 (r.fin : Int) :: bytesL r.sum)), x.bid? = some i) ∧ ¬ F i ∧ i < H.next := by
    intro x hx i hi
    rcases List.mem_append.1 hx with hx | hx
    · exact ⟨.inl (J.ds x hx i hi).1, (J.ds x hx i hi).2, J.dn i (J.ds x hx i hi).1⟩
    · refine ⟨.inr ⟨x, List.mem_append_left _ hx, hi⟩, hfar x (List.mem_append_left _ hx) i hi, ?_⟩
      simp only [cells7, List.mem_cons, List.not_mem_nil, or_false] at hx
      rcases hx with rfl | rfl | rfl | rfl | rfl | rfl | rfl
      · cases hi
      · cases hi
      · cases hi
      · cases hi
      · cases hi
      · exact hd.lt hi
      · exact hb.lt hi
  refine WP.nil_round rfl (fun E e1 e2 e3 => ⟨rfl, _, _, _, _, _, _, _, _, hl8, rfl, (fun i => i = l ∨ i = lv ∨ i = gv ∨ v6.bid? = some i), (fun i => D i ∨ ∃ x ∈ (cells7 r.c.op r.c.u r.c.v r.c.w r.c.t d b ++ (.int .i64 (r.fin : Int) :: bytesL r.sum)), x.bid? = some i), ⟨v6, ls ++ cells7 r.c.op r.c.u r.c.v r.c.w r.c.t d b, ?_⟩, hEE9, ?_, ?_⟩)
  · refine ⟨fun i => Iff.rfl, ⟨n1, n2, n3, ?_, ?_, ?_⟩, hnv6, get_put_self, ?_, ?_, ?_, ?_, ?_, ?_, ?_⟩
    · show l < H8.next; omega
    · show lv < H8.next; omega
    · show gv < H8.next; omega
    · refine (hE9.keep lv (by omega) (fun h => n1 h.symm)).trans ?_
      rw [hE8.keep _ (by omega) n3, ← hH7]; exact get_put_self
    · refine (hE9.keep gv (by omega) (fun h => n2 h.symm)).trans ?_
      rw [lastFin_snoc, ← hH8]; exact get_put_self
    · have := ((hO6.ext hE7 (fun i hi h => (hnv6 i hi).2.1 h)).ext hE8 (fun i hi h => (hnv6 i hi).2.2 h)).ext hE9 (fun i hi h => (hnv6 i hi).1 h)
      rw [List.length_append]; exact this
    · rw [List.map_append]
      exact CmdsC.snoc (hcm.ext hEE9 (fun x hx i hi => (hcells x (List.mem_append_right _ hx) i hi).2.1)) (J.cm.ext hEE9 (fun x hx i hi => (hcells x (List.mem_append_left _ hx) i hi).2.1))
    · intro q hq
      rcases List.mem_append.1 hq with hq | hq
      · exact J.ok q hq
      · simp at hq; subst hq; exact hok
    · intro x hx i hi
      obtain ⟨g1, g2, g3⟩ := hcells x hx i hi
      refine ⟨g1, fun h => ?_⟩
      rcases h with h | h | h | h
      · exact g2 ((J.fs i).2 (.inl h))
      · exact g2 ((J.fs i).2 (.inr (.inl h)))
      · exact g2 ((J.fs i).2 (.inr (.inr (.inl h))))
      · rcases hv6 i h with h | h
        · exact g2 ((J.fs i).2 (.inr (.inr (.inr h))))
        · simp at h; omega
    · intro i hi
      show i < H8.next
      rcases hi with h | ⟨x, hx, h⟩
      · have := J.dn i h; omega
      · rcases List.mem_append.1 hx with hx | hx
        · have := (hcells x (List.mem_append_right _ hx) i h).2.2; omega
        · rcases List.mem_cons.1 hx with rfl | hx
          · cases h
          · obtain ⟨y, _, rfl⟩ := List.mem_map.1 hx
            cases h
  · intro i hi
    rcases hi with h | h | h | h
    · exact .inl ((J.fs i).2 (.inl h))
    · exact .inl ((J.fs i).2 (.inr (.inl h)))
    · exact .inl ((J.fs i).2 (.inr (.inr (.inl h))))
    · rcases hv6 i h with h | h
      · exact .inl ((J.fs i).2 (.inr (.inr (.inr h))))
      · right; simp at h; omega
  · intro i hi
    rcases hi with h | h
    · exact .inl h
    · exact .inr (.inr h)
theorem RdJ.ext {l lv gv : Nat} {lo : LO} {F D W : Nat → Prop} {done : List Rec} {H H' : LH} {v : LV} {ls : List LV} (J : RdJ l lv gv lo F D done H v ls) (hE : Ext H H' W) (hw : ∀ i, F i ∨ D i → ¬ W i) : RdJ l lv gv lo F D done H' v ls := by
  obtain ⟨n1, n2, n3, n4, n5, n6⟩ := J.ne
  have hn := hE.next
  exact ⟨J.fs, ⟨n1, n2, n3, by omega, by omega, by omega⟩, J.vb, hE.get n4 (hw _ (.inl ((J.fs _).2 (.inl rfl)))) J.gl, hE.get n5 (hw _ (.inl ((J.fs _).2 (.inr (.inl rfl))))) J.glv, hE.get n6 (hw _ (.inl ((J.fs _).2 (.inr (.inr (.inl rfl)))))) J.ggv,
    J.ow.ext hE (fun i hi => hw i (.inl ((J.fs _).2 (.inr (.inr (.inr hi)))))), J.cm.ext hE (fun x hx i hi => hw i (.inr (J.ds x hx i hi).1)), J.ok, J.ds, fun i hi => by have := J.dn i hi; omega⟩
noncomputable def rdCons (l lv gv mk : Nat) (env : Env) (e1 : env.n = 17) (e2 : env.g = Try.prog.globals.size) (e3 : EK [(2, .ptr (some (lv, 0))), (3, .ptr (some (gv, 0)))] env) : Consumer l where
  J F D done H := ∃ v ls, RdJ l lv gv (readLoop .ready env mk) F D done H v ls
  fin := by
    rintro F D done H ⟨v, ls, J⟩ i (h | h)
    · obtain ⟨n1, n2, n3, n4, n5, n6⟩ := J.ne
      rcases (J.fs i).1 h with rfl | rfl | rfl | h
      · exact n4
      · exact n5
      · exact n6
      · exact J.ow.lt h
    · exact J.dn i h
  stable := by
    rintro F D done H H' W ⟨v, ls, J⟩ hE hw
    exact ⟨v, ls, J.ext hE hw⟩
  step := by
    rintro F D done H r cells ⟨v, ls, J⟩ hr hfar hdl
    exact read_round e1 e2 e3 J hr hfar hdl

set_option maxHeartbeats 8000000 in
theorem read (H : LH) (b : LV) (bs : List UInt8) (hb : BV H b bs) (hbl : bs.length < 2 ^ 36) : CallP Try.prog 16 [b] H (fun o H' => Ext H H' none' ∧ ∃ v ls, o = .ret (.tuple [v, .int .i64 (lastFin (recs bs) : Int)]) ∧ Lv.Own H' 7 28 v (recs bs).length ls ∧
    CmdsC H' ((recs bs).map (·.c)) ls ∧ (∀ r ∈ recs bs, r.c.Ok) ∧ (∀ x ∈ ls, ∀ i, x.bid? = some i → H.next ≤ i ∧ v.bid? ≠ some i) ∧ ∀ i, v.bid? = some i → H.next ≤ i) := by
  refine en16 (by simp) ?_
  unfold c16
  generalize hH1 : (H.new (.cells [.slice none 0 (.ex 0)] 30 true false)).new (.cells [.int .i64 0] 3 true false) = H1
  have hn1 : H1.next = H.next + 2 := by rw [← hH1]; rfl
  have hE1 : Ext H H1 none' := by rw [← hH1]; exact ((Ext.refl _ _).new _).new _
  have hl1 : H1.get H.next = some (.cells [.slice none 0 (.ex 0)] 30 true false) := by rw [← hH1, get_new_old (by simp)]; exact get_new_self
  have hg1 : H1.get (H.next + 1) = some (.cells [.int .i64 0] 3 true false) := by rw [← hH1]; exact get_new_self
  generalize hH3 : H1.new (.cells [b] 22 true false) = H3
  have hn3 : H3.next = H.next + 3 := by rw [← hH3]; simp [hn1]
  have hE3 : Ext H1 H3 none' := by rw [← hH3]; exact (Ext.refl _ _).new _
  have hb3 : H3.get (H.next + 2) = some (.cells [b] 22 true false) := by rw [← hH3, ← hn1]; exact get_new_self
  refine WP.seq ?_
  refine WP.region rfl ?_
  refine WS.val rfl (LK.alloc) ?_
  refine WS.val rfl (LK.alloc) ?_
  refine WS.nil ?_
  refine WP.seq ?_
  refine WP.seq ?_
  refine (?_ : WP Try.prog _ _ _ ((H.new (.cells [.slice none 0 (.ex 0)] 30 true false)).new (.cells [.int .i64 0] 3 true false)) _)
  rw [hH1]
  refine WP.region rfl ?_
  refine WS.val rfl (LK.move rfl) ?_
  (refine WS.call rfl (LK.call rfl) (CallP.mono (records H1 b (SV.one hb) (SV.cells hb)) ?_); rintro _ Hc ⟨rfl, rfl⟩)
  refine WS.nil ?_
  refine WP.sub (gs := [(6, _), (3, _), (2, _)]) ?_ ⟨rfl, rfl, rfl, trivial⟩
  refine WP.block ?_
  refine (?_ : WP Try.prog _ _ _ (H1.new (.cells [b] 22 true false)) _)
  rw [hH3]
  refine WP.rangeFunc (gf := 35) (fi := []) (ca := [.ptr (some (H.next + 2, 0))]) rfl (by rw [← hn1]; rfl) (fun env e1 e2 e3 => ?_)
  have e4 : EK [(2, .ptr (some (H.next, 0))), (3, .ptr (some (H.next + 1, 0)))] env := e3.sub ⟨rfl, rfl, trivial⟩
  generalize hH5 : (H3.new (.defd false)).new (.loop .ready none 16 env [7] r16_2 (.block 1 (.seq r16_3 r16_4)) H3.next) = H5
  show CallP Try.prog 35 [.yield (H3.next + 1), .ptr (some (H.next + 2, 0))] H5 _
  have hn5 : H5.next = H.next + 5 := by rw [← hH5]; simp [hn3]
  have hE5 : Ext H3 H5 none' := by rw [← hH5]; exact ((Ext.refl _ _).new _).new _
  have hm5 : H5.get H3.next = some (.defd false) := by rw [← hH5, get_new_old (by simp)]; exact get_new_self
  have hlo5 : H5.get (H3.next + 1) = some (readLoop .ready env H3.next) := by rw [← hH5]; exact get_new_self
  have hE15 : Ext H1 H5 none' := hE3.trans hE5 (fun i _ h => h)
  have hE05 : Ext H H5 none' := hE1.trans hE15 (fun i _ h => h)
  have J0 : RdJ (H3.next + 1) H.next (H.next + 1) (readLoop .ready env H3.next) (fun i => i = H3.next + 1 ∨ i = H.next ∨ i = H.next + 1) (fun _ => False) [] H5 (.slice none 0 (.ex 0)) [] := by
    refine ⟨fun i => ⟨fun h => ?_, fun h => ?_⟩, ⟨by omega, by omega, by omega, by omega, by omega, by omega⟩, fun i hi => (nomatch hi), hlo5, hE15.get (by omega) (fun h => h) hl1, hE15.get (by omega) (fun h => h) hg1, Own.nil _ _ _, rfl, fun r hr => (nomatch hr), fun x hx => (nomatch hx), fun i h => h.elim⟩
    · rcases h with h | h | h
      · exact .inl h
      · exact .inr (.inl h)
      · exact .inr (.inr (.inl h))
    · rcases h with h | h | h | h
      · exact .inl h
      · exact .inr (.inl h)
      · exact .inr (.inr h)
      · cases h
  refine (records1 (rdCons (H3.next + 1) H.next (H.next + 1) H3.next env e1 e2 e4) H5 (H.next + 2) b bs _ _ ⟨_, _, J0⟩ (by omega) ⟨true, false, hE5.get (by omega) (fun h => h) hb3⟩ (hb.ext hE05 (fun i _ h => h)) hbl (by omega) (fun i hi h => by have := hb.lt hi; omega)).mono ?_
  rintro o H6 ⟨rfl, F, D, ⟨v, ls, J⟩, hE6, hF6, hD6⟩
  have hn6 := hE6.next
  refine WP.endRange J.gl (by simp) ?_
  have hm6 : H6.get H3.next = some (.defd false) := hE6.get (by omega) (by omega) hm5
  obtain ⟨n1, n2, n3, n4, n5, n6⟩ := J.ne
  generalize hH7 : H6.put (H3.next + 1) (readLoop .exhausted env H3.next) = H7
  refine (?_ : WP Try.prog _ _ _ (H6.put (H3.next + 1) (readLoop .exhausted env H3.next)) _)
  rw [hH7]
  have hn7 : H7.next = H6.next := by rw [← hH7]; rfl
  have hE7 : Ext H6 H7 (fun i => i = H3.next + 1) := by rw [← hH7]; exact Ext.put1 _ _ _
  have hlv7 := hE7.get n5 (fun h => n1 h.symm) J.glv
  have hgv7 := hE7.get n6 (fun h => n2 h.symm) J.ggv
  have hm7 := hE7.get (i := H3.next) (by omega) (by omega) hm6
  have hO7 := J.ow.ext hE7 (fun i hi h => (J.vb i hi).1 h)
  generalize hH8 : H7.put H.next (.cells [v] 30 true false) = H8
  have hE8 : Ext H7 H8 (fun i => i = H.next) := by rw [← hH8]; exact Ext.put1 _ _ _
  have hn8 : H8.next = H7.next := by rw [← hH8]; rfl
  have hgv8 := hE8.get (i := H.next + 1) (by omega) (by omega) hgv7
  have hgv8' : (H7.put H.next (.cells [v] 30 true false)).get (H.next + 1) = some (.cells [.int .i64 (lastFin (recs bs) : Int)] 3 true false) := by rw [hH8]; exact hgv8
  have hlv8 : H8.get H.next = some (.cells [v] 30 true false) := by rw [← hH8]; exact get_put_self
  have hm8 := hE8.get (i := H3.next) (by omega) (by omega) hm7
  refine WP.inBlock ?_
  refine WP.seq ?_
  refine WP.conf rfl ?_
  refine WC.read rfl (LK.load rfl hlv7 rfl) (fun o h => by simp only [okind, h]) (by first | exact trivial | exact ⟨.inl rfl, trivial⟩ | exact ⟨.inl rfl, .inl rfl, trivial⟩ | exact ⟨.inl rfl, .inl rfl, .inl rfl, trivial⟩ | exact ⟨.inl rfl, .inl rfl, .inl rfl, .inl rfl, trivial⟩ | exact ⟨.inr ⟨_, LK.load rfl hgv8' rfl⟩, .inl rfl, trivial⟩) ?_
  refine WC.read rfl (LK.load rfl hgv7 rfl) (fun o h => by simp only [okind, h]) (by first | exact trivial | exact ⟨.inl rfl, trivial⟩ | exact ⟨.inl rfl, .inl rfl, trivial⟩ | exact ⟨.inl rfl, .inl rfl, .inl rfl, trivial⟩ | exact ⟨.inl rfl, .inl rfl, .inl rfl, .inl rfl, trivial⟩ | exact ⟨.inr ⟨_, LK.load rfl hgv8' rfl⟩, .inl rfl, trivial⟩) ?_
  refine WC.skip rfl (LK.store1 rfl rfl hlv7 hO7.sv.cells hO7.sv.one (Nat.le_refl 1)) (fun o h => by simp only [okind, h]) (by first | exact trivial | exact ⟨.inl rfl, trivial⟩ | exact ⟨.inl rfl, .inl rfl, trivial⟩ | exact ⟨.inl rfl, .inl rfl, .inl rfl, trivial⟩ | exact ⟨.inl rfl, .inl rfl, .inl rfl, .inl rfl, trivial⟩ | exact ⟨.inr ⟨_, LK.load rfl hgv8' rfl⟩, .inl rfl, trivial⟩) ?_
  refine WC.skip rfl (LK.store1 rfl rfl hgv8' rfl rfl (Nat.le_refl 1)) (fun o h => by simp only [okind, h]) (by first | exact trivial | exact ⟨.inl rfl, trivial⟩ | exact ⟨.inl rfl, .inl rfl, trivial⟩ | exact ⟨.inl rfl, .inl rfl, .inl rfl, trivial⟩ | exact ⟨.inl rfl, .inl rfl, .inl rfl, .inl rfl, trivial⟩ | exact ⟨.inr ⟨_, LK.load rfl hgv8' rfl⟩, .inl rfl, trivial⟩) ?_
  refine WC.nil ?_
  refine WP.sub (gs := [(2, _), (3, _)]) ?_ ⟨rfl, rfl, trivial⟩
  refine (?_ : WP Try.prog _ _ _ ((H7.put H.next (.cells [v] 30 true false)).put (H.next + 1) (.cells [.int .i64 (lastFin (recs bs) : Int)] 3 true false)) _)
  rw [hH8]
  generalize hH9 : H8.put (H.next + 1) (.cells [.int .i64 (lastFin (recs bs) : Int)] 3 true false) = H9
  have hE9 : Ext H8 H9 (fun i => i = H.next + 1) := by rw [← hH9]; exact Ext.put1 _ _ _
  have hn9 : H9.next = H8.next := by rw [← hH9]; rfl
  have hm9 := hE9.get (i := H3.next) (by omega) (by omega) hm8
  have hlv9 := hE9.get (i := H.next) (by omega) (by omega) hlv8
  have hgv9 : H9.get (H.next + 1) = some (.cells [.int .i64 (lastFin (recs bs) : Int)] 3 true false) := by rw [← hH9]; exact get_put_self
  have hE10 : Ext H9 (H9.put H3.next (.defd true)) (fun i => i = H3.next) := Ext.put1 _ _ _
  have hall : Ext H6 (H9.put H3.next (.defd true)) (fun i => i = H3.next + 1 ∨ i = H.next ∨ i = H.next + 1 ∨ i = H3.next) :=
    ((((hE7.mono (W' := fun i => i = H3.next + 1 ∨ i = H.next ∨ i = H.next + 1 ∨ i = H3.next) (fun i _ h => .inl h)).trans hE8 (fun i _ h => .inr (.inl h))).trans hE9 (fun i _ h => .inr (.inr (.inl h)))).trans hE10 (fun i _ h => .inr (.inr (.inr h))))
  have hvfar : ∀ i, v.bid? = some i → H5.next ≤ i := fun i hi => by
    rcases hF6 i ((J.fs i).2 (.inr (.inr (.inr hi)))) with h | h
    · have := J.vb i hi; omega
    · exact h
  have hdfar : ∀ x ∈ ls, ∀ i, x.bid? = some i → H5.next ≤ i := fun x hx i hi => (hD6 i (J.ds x hx i hi).1).elim (fun h => h.elim) id
  exact WP.ret rfl (fun E f1 f2 f3 => DefsP.mark (i := H3.next) rfl rfl hm9 (by
    obtain ⟨fn, g1, g2⟩ := FnRes.out (P := Try.prog) (f := 16)
    refine DefsP.ret (fn := fn) (vs := [v, .int .i64 (lastFin (recs bs) : Int)]) rfl g1 ?_ ?_
    · rw [g2]
      have s1 : loadL Try.prog (H9.put H3.next (.defd true)) 30 (.ptr (some (H.next, 0))) = some v := by
        simp only [loadL, TAgg.out (P := Try.prog) (t := 30), TSize.out (P := Try.prog) (t := 30), cellsAt]
        rw [get_put_other (by omega), hlv9]; rfl
      have s2 : loadL Try.prog (H9.put H3.next (.defd true)) 3 (.ptr (some (H.next + 1, 0))) = some (.int .i64 (lastFin (recs bs) : Int)) := by
        simp only [loadL, TAgg.out (P := Try.prog) (t := 3), TSize.out (P := Try.prog) (t := 3), cellsAt]
        rw [get_put_other (by omega), hgv9]; rfl
      have k2 : E.get 2 = some (.ptr (some (H.next, 0))) := f3 2 _ rfl
      have k3 : E.get 3 = some (.ptr (some (H.next + 1, 0))) := f3 3 _ rfl
      show Lv.results Try.prog (H9.put H3.next (.defd true)) E [.cell 2 30, .cell 3 3] = _
      simp only [Lv.results, k2, k3, Option.bind_some, s1, s2]
    · refine ⟨(hE05.trans hE6 (fun i hi h => by omega)).trans hall (fun i hi h => by omega), v, ls, rfl, J.ow.ext hall (fun i hi h => by have := hvfar i hi; omega), J.cm.ext hall (fun x hx i hi h => by have := hdfar x hx i hi; omega), J.ok, fun x hx i hi => ⟨by have := hdfar x hx i hi; omega, fun h => (J.ds x hx i hi).2 ((J.fs i).2 (.inr (.inr (.inr h))))⟩, fun i hi => by have := hvfar i hi; omega⟩))
/-! ### slices.Clone -/
theorem eql_nil {H : LH} {v : LV} {bs : List UInt8} (h : BV H v bs) {x y : Operand} : ∃ q, lbin Try.prog .eql 22 x y v (.slice none 0 (.ex 0)) = some (.bool q) ∧ (q = true → bs = []) := by
  have hl := h.length
  have u22 := TUnd.out (P := Try.prog) (t := 22)
  rcases h with ⟨h0, _, rfl | rfl⟩ | ⟨i, off, c, cs, e, own, opn, rfl, _⟩
  · exact ⟨true, by simp only [lbin, guardOk, leq, u22]; rfl, fun _ => List.length_eq_zero_iff.1 h0⟩
  · exact ⟨false, by simp only [lbin, guardOk, leq, u22]; rfl, fun h => (nomatch h)⟩
  · exact ⟨false, by simp only [lbin, guardOk, leq, u22]; rfl, fun h => (nomatch h)⟩
set_option maxHeartbeats 4000000 in
theorem clone (H : LH) (b : LV) (bs : List UInt8) (hb : BV H b bs) (hbl : bs.length < 2 ^ 40) : CallP Try.prog 32 [b] H (fun o H' => Ext H H' none' ∧ ∃ v, o = .ret v ∧ OB H' v bs ∧ ∀ i, v.bid? = some i → H.next ≤ i) := by
  refine en32 (by simp) ?_
  unfold c32
  obtain ⟨q, hq, hqb⟩ := eql_nil hb (x := .tmp 3) (y := .const (.slice none 0 0))
  have hO1 : OB (H.new (.cells [] 5 true false)) (.slice (some (H.next, 0)) 0 (.ex 0)) [] := Own.full (n := 0) (sz := 1) rfl
  obtain ⟨v6, H6, ha, hO6, hE6, hv6⟩ := OB.append hO1 (hb.newo (.cells [] 5 true false)) (by simp; omega)
  rw [List.nil_append] at hO6
  refine WP.seq ?_
  refine WP.region rfl ?_
  refine WS.val rfl (LK.assign rfl) ?_
  refine WS.nil ?_
  refine WP.seq ?_
  refine WP.seq ?_
  refine WP.region rfl ?_
  refine WS.val rfl (LK.move rfl) ?_
  refine WS.val rfl (LK.bin rfl rfl hq) ?_
  refine WS.nil ?_
  refine WP.sub (gs := [(4, _), (2, _), (0, _)]) ?_ ⟨rfl, rfl, rfl, trivial⟩
  refine WP.cond rfl (fun h4 => ?_) (fun h4 => ?_)
  · skip
    refine WP.seq ?_
    refine WP.region rfl ?_
    refine WS.val rfl (LK.assign rfl) ?_
    refine WS.nil ?_
    refine WP.sub (gs := [(2, _), (0, _)]) ?_ ⟨rfl, rfl, trivial⟩
    first
      | (obtain rfl := hqb h4
         exact WP.ret rfl (Fin.ret' rfl rfl ⟨Ext.refl _ _, .slice none 0 (.ex 0), rfl, Own.nil _ _ _, fun i hi => by simp [LV.bid?] at hi⟩))
      | (refine WP.ret rfl (Fin.ret' rfl rfl ⟨((Ext.refl _ _).new _).trans hE6 (fun i hi h => ?_), v6, rfl, hO6, fun i hi => ?_⟩)
         · simp [LV.bid?] at h; omega
         · rcases hv6 i hi with h | h
           · simp [LV.bid?] at h; omega
           · simp at h; omega)
  refine WP.skip ?_
  refine WP.seq ?_
  refine WP.region rfl ?_
  refine WS.val rfl (LK.buildSlice (cs := []) rfl (by decide) rfl) ?_
  refine WS.val rfl (LK.move rfl) ?_
  refine WS.val rfl (LK.builtin rfl ha) ?_
  refine WS.val rfl (LK.assign rfl) ?_
  refine WS.nil ?_
  refine WP.sub (gs := [(2, _)]) ?_ ⟨rfl, trivial⟩
  first
    | (obtain rfl := hqb h4
       exact WP.ret rfl (Fin.ret' rfl rfl ⟨Ext.refl _ _, .slice none 0 (.ex 0), rfl, Own.nil _ _ _, fun i hi => by simp [LV.bid?] at hi⟩))
    | (refine WP.ret rfl (Fin.ret' rfl rfl ⟨((Ext.refl _ _).new _).trans hE6 (fun i hi h => ?_), v6, rfl, hO6, fun i hi => ?_⟩)
       · simp [LV.bid?] at h; omega
       · rcases hv6 i hi with h | h
         · simp [LV.bid?] at h; omega
         · simp at h; omega)
theorem recsF_last : ∀ (f : Nat) (bs last : List UInt8) (at_ : Nat), at_ ≤ bs.length → ∀ r ∈ recsF f bs at_ last, r.fin ≤ bs.length
  | 0, _, _, _, _, r, h => by cases h
  | f + 1, bs, last, at_, hl, r, h => by
    unfold recsF at h
    cases hn : nextR bs at_ last with
    | none => rw [hn] at h; cases h
    | some q =>
      rw [hn] at h
      have := nextR_fin hn
      rcases List.mem_cons.1 h with rfl | h
      · exact this.2
      · exact recsF_last f bs q.sum q.fin this.2 r h
theorem lastFin_le (bs : List UInt8) : lastFin (recs bs) ≤ bs.length := by
  unfold lastFin
  cases h : (recs bs).getLast? with
  | none => simp
  | some r =>
    have := recsF_last _ bs _ 0 (Nat.zero_le _) r (List.mem_of_getLast? h)
    simpa using this
set_option maxHeartbeats 4000000 in
theorem repair (H : LH) (b : LV) (bs : List UInt8) (hb : BV H b bs) (hbl : bs.length < 2 ^ 36) : CallP Try.prog 20 [b] H (fun o H' => Ext H H' none' ∧ ∃ v, o = .ret v ∧ OB H' v (bs.take (lastFin (recs bs)))) := by
  refine en20 (by simp) ?_
  unfold c20
  have hle := lastFin_le bs
  refine WP.seq ?_
  refine WP.region rfl ?_
  refine WS.val rfl (LK.assign rfl) ?_
  refine WS.nil ?_
  refine WP.seq ?_
  refine WP.region rfl ?_
  refine WS.val rfl (LK.move rfl) ?_
  (refine WS.call rfl (LK.call rfl) (CallP.mono (read H b bs hb hbl) ?_); rintro _ Hc ⟨hE, v, ls, rfl, _⟩)
  refine WS.val rfl (LK.move rfl) ?_
  refine WS.val rfl (LK.extract rfl rfl) ?_
  refine WS.val rfl (LK.extract rfl rfl) ?_
  refine WS.val rfl (LK.assign rfl) ?_
  refine WS.val rfl (LK.assign rfl) ?_
  refine WS.nil ?_
  refine WP.sub (gs := [(4, _), (2, _), (0, _)]) ?_ ⟨rfl, rfl, rfl, trivial⟩
  refine WP.seq ?_
  obtain ⟨v', hsl, hb', hv'⟩ := BV.slice (H := Hc) (v := b) (bs := bs) (hb.ext hE (fun i _ h => h)) (t := 22) (lo := none) (hi := some (.int .i64 ((lastFin (recs bs) : Nat) : Int))) (l := 0) (r := lastFin (recs bs)) rfl (natOf_cast (k := .i64)) (Nat.zero_le _) hle
  rw [List.drop_zero, Nat.sub_zero] at hb'
  refine WP.region rfl ?_
  refine WS.val rfl (LK.move rfl) ?_
  refine WS.val rfl (LK.move rfl) ?_
  refine WS.val rfl (LK.slice rfl rfl rfl rfl hsl) ?_
  (refine WS.call rfl (LK.call rfl) (CallP.mono (clone Hc v' _ hb' (by rw [List.length_take]; omega)) ?_); rintro _ Hd ⟨hE2, w, rfl, hO, _⟩)
  refine WS.val rfl (LK.assign rfl) ?_
  refine WS.nil ?_
  refine WP.sub (gs := [(2, _)]) ?_ ⟨rfl, trivial⟩
  exact WP.ret rfl (Fin.ret' rfl rfl ⟨hE.trans hE2 (fun i _ h => h), w, rfl, hO⟩)

/-! ### slices.Grow, slices.Concat -/
/-- A slice of one's own with room: these bytes, and zeros behind them. -/
def Room (H : LH) (v : LV) (bs : List UInt8) (total : Nat) : Prop := ∃ i, i < H.next ∧ v = .slice (some (i, 0)) bs.length (.op 1) ∧ H.get i = some (.cells (bytesL bs ++ List.replicate (total - bs.length) (.int .u8 0)) 5 true true) ∧ bs.length ≤ total
theorem Room.done {H : LH} {v : LV} {bs : List UInt8} (h : Room H v bs bs.length) : OB H v bs := by
  obtain ⟨i, hi, rfl, hg, _⟩ := h
  exact .inr (.inl ⟨i, hi, rfl, by simpa using hg, by simp [bytesL_length]⟩)
theorem Room.append {H : LH} {v x : LV} {bs xs : List UInt8} {total : Nat} (h : Room H v bs total) (hx : BV H x xs) (hl : bs.length + xs.length ≤ total) :
    ∃ v' H', builtinL Try.prog H .append [22, 22] [v, x] = some (.val v' H') ∧ Room H' v' (bs ++ xs) total ∧ Ext H H' (fun i => v.bid? = some i) ∧ v'.bid? = v.bid? := by
  obtain ⟨i, hi, rfl, hg, hb⟩ := h
  have hlen : (bytesL bs ++ List.replicate (total - bs.length) (LV.int .u8 0)).length = total := by simp [bytesL_length]; omega
  by_cases h0 : xs.length = 0
  · obtain rfl : xs = [] := List.length_eq_zero_iff.1 h0
    refine ⟨.slice (some (i, 0)) bs.length (.op 1), H, append_out (t := 22) (t' := 22) hx rfl ?_, ⟨i, hi, by simp, by simpa using hg, by simpa using hb⟩, Ext.refl _ _, rfl⟩
    simp only [appendL, TSize.out (P := Try.prog) (t := 5), TBytes.out (P := Try.prog) (t := 5), TZero.out (P := Try.prog) (t := 5), hg]
    rw [if_neg (by omega), if_neg (by omega), if_neg (by decide), if_neg (by simp), if_neg (by simp), if_pos (by rfl), if_pos (by rw [hlen]; omega)]
  · refine ⟨.slice (some (i, 0)) (bs.length + xs.length) (.op 1), H.put i (.cells (splice (bytesL bs ++ List.replicate (total - bs.length) (.int .u8 0)) bs.length (bytesL xs)) 5 true true), append_out (t := 22) (t' := 22) hx (bytesL_one _) ?_, ⟨i, by simpa using hi, by simp, ?_, by simpa using hl⟩, Ext.put1 _ _ _ |>.mono (fun j _ h => by subst h; rfl), rfl⟩
    · simp only [appendL, TSize.out (P := Try.prog) (t := 5), TBytes.out (P := Try.prog) (t := 5), TZero.out (P := Try.prog) (t := 5), hg]
      rw [if_neg (by omega), if_neg (by omega), if_neg (by decide), if_neg (by simp), if_neg (by simp), if_neg h0, if_pos (by rw [hlen]; omega)]
      simp only [storeCellsL, hg]
      rw [if_pos (by rw [hlen, bytesL_length]; omega)]
      simp
    · rw [get_put_self]
      congr 2
      unfold splice
      rw [List.take_append_of_le_length (by rw [bytesL_length]; omega), List.take_of_length_le (by rw [bytesL_length]; omega), bytesL_length, List.drop_append, List.drop_eq_nil_of_le (by rw [bytesL_length]; omega), List.nil_append, List.drop_replicate, bytesL_length, bytesL_append, List.length_append]
      congr 2
      omega
set_option maxHeartbeats 4000000 in
theorem grow (H : LH) (n : Nat) (h0 : 0 < n) (hn : n < 2 ^ 40) : CallP Try.prog 39 [.slice none 0 (.ex 0), .int .i64 n] H (fun o H' => Ext H H' none' ∧ ∃ v, o = .ret v ∧ Room H' v [] n ∧ ∀ i, v.bid? = some i → H.next ≤ i) := by
  refine en39 (by simp) ?_
  unfold c39
  have hcap : builtinL Try.prog H .cap [22] [.slice none 0 (.ex 0)] = some (.val (.int .i64 ((0 : Nat) : Int)) H) := by
    simp only [builtinL, TUnd.out (P := Try.prog) (t := 22)]
  have hsl : sliceL Try.prog H 22 (.slice none 0 (.ex 0)) none (some (.int .i64 ((0 : Nat) : Int))) none = some (.slice none 0 (.ex 0)) := by
    have e : natOf (.int .i64 ((0 : Nat) : Int)) = some 0 := rfl
    simp only [sliceL, TUnd.out (P := Try.prog) (t := 22), TSize.out (P := Try.prog) (t := 5), boundO, e]
    simp
  have hap : builtinL Try.prog H .append [22, 3] [.slice none 0 (.ex 0), .int .i64 n] = some (.val (.slice (some (H.next, 0)) n (.op 1)) (H.new (.cells (List.replicate n (.int .u8 0)) 5 true true))) := by
    have e22 : sliceElem Try.prog 22 = some 5 := by simp only [sliceElem, TUnd.out (P := Try.prog) (t := 22)]
    simp only [builtinL, e22, TUnd.out (P := Try.prog) (t := 3), natOf_cast, TSize.out (P := Try.prog) (t := 5), TBytes.out (P := Try.prog) (t := 5), TZero.out (P := Try.prog) (t := 5)]
    rw [if_pos ⟨by unfold growMax; omega, by unfold growMax; omega, rfl, rfl⟩]
    simp only [appendL, TSize.out (P := Try.prog) (t := 5), TBytes.out (P := Try.prog) (t := 5), TZero.out (P := Try.prog) (t := 5)]
    rw [if_neg (by omega), if_neg (by omega), if_neg (by decide), if_neg (by omega), if_pos (by unfold growMax; omega)]
    simp only [LV.cells, zerosL_one]
    rfl
  have hsl2 : sliceL Try.prog (H.new (.cells (List.replicate n (.int .u8 0)) 5 true true)) 22 (.slice (some (H.next, 0)) n (.op 1)) none (some (.int .i64 ((0 : Nat) : Int))) none = some (.slice (some (H.next, 0)) 0 (.op 1)) := by
    have e : natOf (.int .i64 ((0 : Nat) : Int)) = some 0 := rfl
    simp only [sliceL, TUnd.out (P := Try.prog) (t := 22), TSize.out (P := Try.prog) (t := 5), boundO, e, knownRoom, get_new_self]
    simp
  have hw : IntKind.i64.wrap ((n : Int) - ((0 : Nat) : Int)) = (n : Int) := by rw [wrap_i64 (by omega) (by omega)]; omega
  have hw0 : IntKind.i64.wrap (((0 : Nat) : Int) - ((0 : Nat) : Int)) = ((0 : Nat) : Int) := rfl
  refine WP.seq ?_
  refine WP.region rfl ?_
  refine WS.val rfl (LK.assign rfl) ?_
  refine WS.nil ?_
  refine WP.seq ?_
  refine WP.seq ?_
  refine WP.region rfl ?_
  refine WS.val rfl (LK.move rfl) ?_
  refine WS.val rfl (LK.lss rfl rfl) ?_
  refine WS.nil ?_
  refine WP.sub (gs := [(6, _), (4, _), (0, _), (1, _)]) ?_ ⟨rfl, rfl, rfl, rfl, trivial⟩
  refine WP.cond rfl (fun h6 => ?_) (fun h6 => ?_)
  · first | (exfalso; have := of_decide_eq_true h6; omega) | (exfalso; have := of_decide_eq_false h6; omega)
  refine WP.skip ?_
  refine WP.seq ?_
  refine WP.seq ?_
  refine WP.region rfl ?_
  refine WS.val rfl (LK.move rfl) ?_
  refine WS.val rfl (LK.move rfl) ?_
  refine WS.val rfl (LK.builtin rfl hcap) ?_
  refine WS.val rfl (LK.move rfl) ?_
  refine WS.val rfl (LK.builtin rfl hcap) ?_
  refine WS.val rfl (LK.sub_to rfl rfl hw0) ?_
  refine WS.val rfl (LK.sub_to rfl rfl hw) ?_
  refine WS.val rfl (LK.assign rfl) ?_
  refine WS.nil ?_
  refine WP.sub (gs := [(1, _), (4, _), (0, _)]) ?_ ⟨rfl, rfl, rfl, trivial⟩
  refine WP.seq ?_
  refine WP.region rfl ?_
  refine WS.val rfl (LK.move rfl) ?_
  refine WS.val rfl (LK.gtr rfl rfl) ?_
  refine WS.nil ?_
  refine WP.sub (gs := [(16, _), (1, _), (4, _), (0, _)]) ?_ ⟨rfl, rfl, rfl, rfl, trivial⟩
  refine WP.cond rfl (fun h16 => ?_) (fun h16 => ?_)
  rotate_left
  · first | (exfalso; have := of_decide_eq_true h16; omega) | (exfalso; have := of_decide_eq_false h16; omega)
  refine WP.region rfl ?_
  refine WS.val rfl (LK.move rfl) ?_
  refine WS.val rfl (LK.move rfl) ?_
  refine WS.val rfl (LK.builtin rfl hcap) ?_
  refine WS.val rfl (LK.slice rfl rfl rfl rfl hsl) ?_
  refine WS.val rfl (LK.move rfl) ?_
  refine WS.val rfl (LK.builtin rfl hap) ?_
  refine WS.val rfl (LK.move rfl) ?_
  refine WS.val rfl (LK.len rfl) ?_
  refine WS.val rfl (LK.slice rfl rfl rfl rfl hsl2) ?_
  refine WS.val rfl (LK.assign rfl) ?_
  refine WS.nil ?_
  refine WP.sub (gs := [(0, _), (4, _)]) ?_ ⟨rfl, rfl, trivial⟩
  refine WP.seq ?_
  refine WP.region rfl ?_
  refine WS.val rfl (LK.move rfl) ?_
  refine WS.val rfl (LK.assign rfl) ?_
  refine WS.nil ?_
  refine WP.sub (gs := [(4, _)]) ?_ ⟨rfl, trivial⟩
  exact WP.ret rfl (Fin.ret' rfl rfl ⟨(Ext.refl _ _).new _, .slice (some (H.next, 0)) 0 (.op 1), rfl, ⟨H.next, by simp, rfl, by rw [get_new_self]; simp [bytesL], Nat.zero_le _⟩, fun i hi => by simp [LV.bid?] at hi; omega⟩)
/-- Three slices of bytes in a row. -/
theorem concat_at {H : LH} {i : Nat} {a b c : LV} {k : Nat} (hk : k < 3) : ([a, b, c] : List LV)[0 + k * 1]? = some (([a, b, c] : List LV)[k]) := by
  simp [hk]
def at3 (xs : List (List UInt8)) (k : Nat) : List UInt8 := xs.getD k []
set_option maxHeartbeats 8000000 in
theorem concat (H : LH) (sb : Nat) (vs : List LV) (xs : List (List UInt8)) (h3 : vs.length = 3) (hsb : sb < H.next) (hg : H.get sb = some (.cells vs 22 true false)) (hb : ∀ k, k < 3 → ∀ v, vs[k]? = some v → BV H v (at3 xs k)) (h0 : 0 < (at3 xs 0).length + (at3 xs 1).length + (at3 xs 2).length)
    (hl : ∀ k, k < 3 → (at3 xs k).length < 2 ^ 36) : CallP Try.prog 25 [.slice (some (sb, 0)) 3 (.ex 3)] H (fun o H' => Ext H H' none' ∧ ∃ v, o = .ret v ∧ OB H' v (at3 xs 0 ++ at3 xs 1 ++ at3 xs 2) ∧ ∀ i, v.bid? = some i → H.next ≤ i) := by
  refine en25 (by simp) ?_
  unfold c25
  have l0 := hl 0 (by omega)
  have l1 := hl 1 (by omega)
  have l2 := hl 2 (by omega)
  let sumL : Nat → Nat := fun k => if k = 0 then 0 else if k = 1 then (at3 xs 0).length else if k = 2 then (at3 xs 0).length + (at3 xs 1).length else (at3 xs 0).length + (at3 xs 1).length + (at3 xs 2).length
  have hs : ∀ k, k < 3 → sumL (k + 1) = sumL k + (at3 xs k).length := fun k hk => by
    match k, hk with
    | 0, _ => simp [sumL]
    | 1, _ => simp [sumL]
    | 2, _ => simp [sumL]
  have hsl : ∀ k, k ≤ 3 → sumL k ≤ (at3 xs 0).length + (at3 xs 1).length + (at3 xs 2).length := fun k hk => by
    match k, hk with
    | 0, _ => simp [sumL]
    | 1, _ => simp [sumL]; omega
    | 2, _ => simp [sumL]
    | 3, _ => simp [sumL]
  refine WP.seq ?_
  refine WP.region rfl ?_
  refine WS.val rfl (LK.assign rfl) ?_
  refine WS.nil ?_
  refine WP.seq ?_
  refine WP.region rfl ?_
  refine WS.val rfl (LK.assign rfl) ?_
  refine WS.nil ?_
  refine WP.seq ?_
  refine WP.seq ?_
  refine WP.region rfl ?_
  refine WS.val rfl (LK.move rfl) ?_
  refine WS.val rfl (LK.len rfl) ?_
  refine WS.val rfl (LK.move rfl) ?_
  refine WS.nil ?_
  refine WP.block ?_
  refine WP.loop ?_
  skip
  refine WP.sub (gs := [(0, .slice (some (sb, 0)) 3 (.ex 3)), (3, .int .i64 ((0 : Nat) : Int)), (9, .slice (some (sb, 0)) 3 (.ex 3)), (10, .int .i64 3), (11, .int .i64 ((0 : Nat) : Int))]) ?_ ⟨rfl, rfl, rfl, rfl, rfl, trivial⟩
  refine WP.inv (fun n g H' => ∃ k : Nat, n = 3 - k ∧ k ≤ 3 ∧ H' = H ∧ g = [(0, .slice (some (sb, 0)) 3 (.ex 3)), (3, .int .i64 (sumL k : Int)), (9, .slice (some (sb, 0)) 3 (.ex 3)), (10, .int .i64 3), (11, .int .i64 (k : Int))]) (n := 3) ⟨0, rfl, by omega, rfl, rfl⟩ ?_
  rintro n g H' ⟨k, rfl, hk, rfl, rfl⟩ ih
  by_cases hlt : k < 3
  · obtain ⟨w, hw⟩ : ∃ w, vs[k]? = some w := ⟨vs[k]'(by omega), List.getElem?_eq_getElem _⟩
    have hbk := hb k hlt w hw
    have hw' : vs[0 + k * 1]? = some w := by simpa using hw
    have hlk := hl k hlt
    have hslk := hsl k hk
    have hadd : IntKind.i64.wrap ((sumL k : Int) + ((at3 xs k).length : Int)) = (sumL (k + 1) : Int) := by rw [hs k hlt, wrap_i64 (by omega) (by omega)]; omega
    have hk1 : IntKind.i64.wrap ((k : Int) + 1) = ((k + 1 : Nat) : Int) := by rw [wrap_i64 (by omega) (by omega)]; rfl
    refine WP.seq ?_
    refine WP.region rfl ?_
    refine WS.val rfl (LK.lss rfl rfl) ?_
    refine WS.nil ?_
    refine WP.seq ?_
    refine WP.cond rfl (fun h12 => ?_) (fun h12 => ?_)
    rotate_left
    · first | (exfalso; have := of_decide_eq_false h12; omega) | (exfalso; have := of_decide_eq_true h12; omega)
    refine WP.skip ?_
    refine WP.seq ?_
    refine WP.block ?_
    refine WP.seq ?_
    refine WP.region rfl ?_
    refine WS.val rfl (LK.indexAddr rfl rfl natOf_cast hlt) ?_
    refine WS.val rfl (LK.load rfl hg hw') ?_
    refine WS.val rfl (LK.assign rfl) ?_
    refine WS.nil ?_
    refine WP.seq ?_
    refine WP.region rfl ?_
    refine WS.val rfl (LK.move rfl) ?_
    refine WS.val rfl (LK.move rfl) ?_
    refine WS.val rfl (SV.len hbk rfl) ?_
    refine WS.val rfl (LK.add_to rfl rfl hadd) ?_
    refine WS.val rfl (LK.assign rfl) ?_
    refine WS.nil ?_
    refine WP.seq ?_
    refine WP.region rfl ?_
    refine WS.val rfl (LK.move rfl) ?_
    refine WS.val rfl (LK.lss rfl rfl) ?_
    refine WS.nil ?_
    refine WP.cond rfl (fun h20 => ?_) (fun h20 => ?_)
    · first | (exfalso; have := of_decide_eq_false h20; omega) | (exfalso; have := of_decide_eq_true h20; omega)
    refine WP.skip ?_
    refine WP.inBlock ?_
    refine WP.region rfl ?_
    refine WS.val rfl (LK.add_to rfl rfl hk1) ?_
    refine WS.val rfl (LK.move rfl) ?_
    refine WS.nil ?_
    exact WP.sub (gs := [(0, _), (3, .int .i64 (sumL (k + 1) : Int)), (9, _), (10, _), (11, .int .i64 ((k + 1 : Nat) : Int))]) (ih (3 - (k + 1)) _ _ (by omega) ⟨k + 1, rfl, by omega, rfl, rfl⟩) ⟨rfl, rfl, rfl, rfl, rfl, trivial⟩
  · obtain rfl : k = 3 := by omega
    have hs3 : sumL 3 = (at3 xs 0).length + (at3 xs 1).length + (at3 xs 2).length := by simp [sumL]
    have hgr := grow H' (sumL 3) (by rw [hs3]; omega) (by rw [hs3]; omega)
    refine WP.seq ?_
    refine WP.region rfl ?_
    refine WS.val rfl (LK.lss rfl rfl) ?_
    refine WS.nil ?_
    refine WP.seq ?_
    refine WP.cond rfl (fun h12 => ?_) (fun h12 => ?_)
    · exfalso; have := of_decide_eq_true h12; omega
    refine WP.exit rfl ?_
    refine WP.seq ?_
    refine WP.region rfl ?_
    refine WS.val rfl (LK.move rfl) ?_
    (refine WS.call rfl (LK.call rfl) (CallP.mono (hgr) ?_); rintro _ Hg ⟨hEg, v, rfl, hR, hvg⟩)
    refine WS.val rfl (LK.assign rfl) ?_
    refine WS.nil ?_
    refine WP.sub (gs := [(6, _), (0, _)]) ?_ ⟨rfl, rfl, trivial⟩
    refine WP.seq ?_
    refine WP.seq ?_
    refine WP.region rfl ?_
    refine WS.val rfl (LK.move rfl) ?_
    refine WS.val rfl (LK.len rfl) ?_
    refine WS.val rfl (LK.move rfl) ?_
    refine WS.nil ?_
    refine WP.sub (gs := [(27, _), (26, _), (25, _), (6, _)]) ?_ ⟨rfl, rfl, rfl, rfl, trivial⟩
    refine WP.block ?_
    refine WP.loop ?_
    have done0 : ∀ k, k ≤ 3 → sumL k ≤ sumL 3 := fun k hk => by rw [hs3]; exact hsl k hk
    let catL : Nat → List UInt8 := fun k => if k = 0 then [] else if k = 1 then at3 xs 0 else if k = 2 then at3 xs 0 ++ at3 xs 1 else at3 xs 0 ++ at3 xs 1 ++ at3 xs 2
    have hcs : ∀ k, k < 3 → catL (k + 1) = catL k ++ at3 xs k := fun k hk => by
      match k, hk with
      | 0, _ => simp [catL]
      | 1, _ => simp [catL]
      | 2, _ => simp [catL]
    have hcl : ∀ k, k ≤ 3 → (catL k).length = sumL k := fun k hk => by
      match k, hk with
      | 0, _ => simp [catL, sumL]
      | 1, _ => simp [catL, sumL]
      | 2, _ => simp [catL, sumL]
      | 3, _ => simp [catL, sumL]; omega
    refine WP.sub (gs := [(6, v), (25, .slice (some (sb, 0)) 3 (.ex 3)), (26, .int .i64 3), (27, .int .i64 ((0 : Nat) : Int))]) ?_ ⟨rfl, rfl, rfl, rfl, trivial⟩
    refine WP.inv (fun n g H'' => ∃ (k : Nat) (v1 : LV), n = 3 - k ∧ k ≤ 3 ∧ g = [(6, v1), (25, .slice (some (sb, 0)) 3 (.ex 3)), (26, .int .i64 3), (27, .int .i64 (k : Int))] ∧ Room H'' v1 (catL k) (sumL 3) ∧ Ext H' H'' none' ∧ (∀ i, v1.bid? = some i → H'.next ≤ i)) (n := 3) ⟨0, v, rfl, by omega, rfl, hR, hEg, hvg⟩ ?_
    rintro n g H'' ⟨k, v1, rfl, hk, rfl, hR1, hE1, hv1⟩ ih2
    by_cases hlt : k < 3
    · obtain ⟨w, hw⟩ : ∃ w, vs[k]? = some w := ⟨vs[k]'(by omega), List.getElem?_eq_getElem _⟩
      have hbk := hb k hlt w hw
      have hw' : vs[0 + k * 1]? = some w := by simpa using hw
      have hg'' := hE1.get hsb (fun h => h) hg
      have hk1 : IntKind.i64.wrap ((k : Int) + 1) = ((k + 1 : Nat) : Int) := by rw [wrap_i64 (by omega) (by omega)]; rfl
      obtain ⟨v6, H6, ha, hR6, hE6, hv6⟩ := hR1.append (hbk.ext hE1 (fun i _ h => h) : BV H'' w (at3 xs k)) (by rw [hcl k hk, ← hs k hlt]; exact done0 _ hlt)
      refine WP.seq ?_
      refine WP.region rfl ?_
      refine WS.val rfl (LK.lss rfl rfl) ?_
      refine WS.nil ?_
      refine WP.seq ?_
      refine WP.cond rfl (fun h28 => ?_) (fun h28 => ?_)
      rotate_left
      · exfalso; have := of_decide_eq_false h28; omega
      refine WP.skip ?_
      refine WP.seq ?_
      refine WP.block ?_
      refine WP.seq ?_
      refine WP.region rfl ?_
      refine WS.val rfl (LK.indexAddr rfl rfl natOf_cast hlt) ?_
      refine WS.val rfl (LK.load rfl hg'' hw') ?_
      refine WS.val rfl (LK.assign rfl) ?_
      refine WS.nil ?_
      refine WP.region rfl ?_
      refine WS.val rfl (LK.move rfl) ?_
      refine WS.val rfl (LK.move rfl) ?_
      refine WS.val rfl (LK.builtin rfl ha) ?_
      refine WS.val rfl (LK.assign rfl) ?_
      refine WS.nil ?_
      refine WP.inBlock ?_
      refine WP.region rfl ?_
      refine WS.val rfl (LK.add_to rfl rfl hk1) ?_
      refine WS.val rfl (LK.move rfl) ?_
      refine WS.nil ?_
      exact WP.sub (gs := [(6, v6), (25, _), (26, _), (27, .int .i64 ((k + 1 : Nat) : Int))]) (ih2 (3 - (k + 1)) _ _ (by omega) ⟨k + 1, v6, rfl, by omega, rfl, by rw [hcs k hlt]; exact hR6, hE1.trans hE6 (fun i hi h => by have := hv1 i h; omega), fun i hi => hv1 i (by rw [← hv6]; exact hi)⟩) ⟨rfl, rfl, rfl, rfl, trivial⟩
    · obtain rfl : k = 3 := by omega
      have hc3 : catL 3 = at3 xs 0 ++ at3 xs 1 ++ at3 xs 2 := by simp [catL]
      have hfin : Room H'' v1 (catL 3) (catL 3).length := by rw [hcl 3 (by omega)]; exact hR1
      have hob := hfin.done
      rw [hc3] at hob
      refine WP.seq ?_
      refine WP.region rfl ?_
      refine WS.val rfl (LK.lss rfl rfl) ?_
      refine WS.nil ?_
      refine WP.seq ?_
      refine WP.cond rfl (fun h28 => ?_) (fun h28 => ?_)
      · exfalso; have := of_decide_eq_true h28; omega
      refine WP.exit rfl ?_
      refine WP.seq ?_
      refine WP.region rfl ?_
      refine WS.val rfl (LK.move rfl) ?_
      refine WS.val rfl (LK.assign rfl) ?_
      refine WS.nil ?_
      refine WP.sub (gs := [(2, _)]) ?_ ⟨rfl, trivial⟩
      exact WP.ret rfl (Fin.ret' rfl rfl ⟨hE1, v1, rfl, hob, hv1⟩)
def lastSum (rs : List Rec) : List UInt8 := (rs.getLast?.map (·.sum)).getD [0, 0, 0, 0]
theorem lastSum_snoc (rs : List Rec) (r : Rec) : lastSum (rs ++ [r]) = r.sum := by simp [lastSum]
/-- The appending consumer: it keeps the last record. -/
structure ApJ (l lv : Nat) (lo : LO) (F D : Nat → Prop) (done : List Rec) (H : LH) (cs : List LV) : Prop where
  fs : ∀ i, F i ↔ (i = l ∨ i = lv)
  ne : l ≠ lv ∧ l < H.next ∧ lv < H.next
  gl : H.get l = some lo
  glv : H.get lv = some (.cells (cs ++ (.int .i64 (lastFin done : Int) :: bytesL (lastSum done))) 55 true false)
  cl : cs.length = 7
  sl : (lastSum done).length = 4
  dn : ∀ i, D i → i < H.next
noncomputable def appLoop (st : LoopState) (env : Env) (mk : Nat) : LO := .loop st none 10 env [21] r10_6 (.block 1 r10_7) mk

set_option maxHeartbeats 8000000 in
theorem app_round {l lv mk : Nat} {env : Env} (e1 : env.n = 38) (e2 : env.g = Try.prog.globals.size) (e3 : EK [(8, .ptr (some (lv, 0)))] env) {F D : Nat → Prop} {done : List Rec} {H : LH} {cs0 : List LV} (J : ApJ l lv (appLoop .ready env mk) F D done H cs0)
    {r : Rec} {cells : List LV} (hr : RecV H r cells) :
    RoundP Try.prog l [.agg cells] H (fun o H' => o = .ret (.bool true) ∧ ∃ F' D', (∃ cs', ApJ l lv (appLoop .ready env mk) F' D' (done ++ [r]) H' cs') ∧ Ext H H' F ∧ (∀ i, F' i → F i ∨ H.next ≤ i) ∧ (∀ i, D' i → D i ∨ H.next ≤ i ∨ ∃ x ∈ cells, x.bid? = some i)) := by
  obtain ⟨cs, rfl, hok, hcm, hsl⟩ := hr
  have hone7 := cmd_one hcm
  have hl7 := cmd_len hcm
  have hone12 : (cs ++ (.int .i64 (r.fin : Int) :: bytesL r.sum)).all oneCell = true := by
    rw [List.all_append, hone7, List.all_cons, bytesL_one]; rfl
  have hlen12 : (cs ++ (.int .i64 (r.fin : Int) :: bytesL r.sum)).length = 12 := by
    rw [List.length_append, List.length_cons, bytesL_length, hsl, hl7]
  have hold : (cs0 ++ (.int .i64 (lastFin done : Int) :: bytesL (lastSum done))).length = 12 := by
    rw [List.length_append, List.length_cons, bytesL_length, J.sl, J.cl]
  obtain ⟨n1, n2, n3⟩ := J.ne
  refine RoundP.enter (N := 38) (G := Try.prog.globals.size) J.gl rfl e1 e2 e3 (by decide) ?_
  show WP Try.prog _ _ [(21, .agg (cs ++ (.int .i64 (r.fin : Int) :: bytesL r.sum))), (8, .ptr (some (lv, 0)))] _ _
  generalize hH1 : (H.new (.cells zero12 55 true false)).put H.next (.cells (cs ++ (.int .i64 (r.fin : Int) :: bytesL r.sum)) 55 true false) = H1
  have hn1 : H1.next = H.next + 1 := by rw [← hH1]; rfl
  have hE1 : Ext H H1 none' := by rw [← hH1]; exact ((Ext.refl _ _).new _).put _ (fun h => by omega)
  have hg1 : H1.get H.next = some (.cells (cs ++ (.int .i64 (r.fin : Int) :: bytesL r.sum)) 55 true false) := by rw [← hH1]; exact get_put_self
  have hl1 : H1.get l = some (appLoop .ready env mk) := hE1.get n2 (fun h => h) J.gl
  generalize hH2 : H1.put l (appLoop .busy env mk) = H2
  have hn2 : H2.next = H1.next := by rw [← hH2]; rfl
  have hE2 : Ext H1 H2 (fun i => i = l) := by rw [← hH2]; exact Ext.put1 _ _ _
  have hg2 := hE2.get (i := H.next) (by omega) (by omega) hg1
  have hlv2 := hE2.get (i := lv) (by omega) (fun h => n1 h.symm) (hE1.get n3 (fun h => h) J.glv)
  generalize hH3 : H2.put lv (.cells (cs ++ (.int .i64 (r.fin : Int) :: bytesL r.sum)) 55 true false) = H3
  have hn3 : H3.next = H2.next := by rw [← hH3]; rfl
  have hE3 : Ext H2 H3 (fun i => i = lv) := by rw [← hH3]; exact Ext.put1 _ _ _
  have hl3 : H3.get l = some (appLoop .busy env mk) := by rw [hE3.keep _ (by omega) n1, ← hH2]; exact get_put_self
  refine WP.region rfl ?_
  refine WS.val rfl (LK.alloc) ?_
  refine WS.skip rfl (LK.store (n := 12) rfl rfl get_new_self hlen12 hone12 (Nat.le_refl 12)) ?_
  refine WS.nil ?_
  refine (?_ : WP Try.prog _ _ _ ((H.new (.cells zero12 55 true false)).put H.next (.cells (splice zero12 0 (cs ++ (.int .i64 (r.fin : Int) :: bytesL r.sum))) 55 true false)) _)
  rw [splice_all (by rw [hlen12]; rfl), hH1]
  refine WP.beginRound rfl hl1 ?_
  refine (?_ : WP Try.prog _ _ _ (H1.put l (appLoop .busy env mk)) _)
  rw [hH2]
  refine WP.block ?_
  refine WP.region rfl ?_
  refine WS.val rfl (LK.load_agg (xs := cs ++ (.int .i64 (r.fin : Int) :: bytesL r.sum)) rfl hg2 (by rw [hlen12]; omega) (by rw [List.drop_zero]; exact List.take_of_length_le (by rw [hlen12]; omega))) ?_
  refine WS.skip rfl (LK.store (n := 12) rfl rfl hlv2 hlen12 hone12 (by rw [hold]; omega)) ?_
  refine WS.nil ?_
  refine WP.sub (gs := []) ?_ trivial
  refine WP.inBlock ?_
  refine (?_ : WP Try.prog _ _ _ (H2.put lv (.cells (splice (cs0 ++ (.int .i64 (lastFin done : Int) :: bytesL (lastSum done))) 0 (cs ++ (.int .i64 (r.fin : Int) :: bytesL r.sum))) 55 true false)) _)
  rw [splice_all (by rw [hlen12, hold]), hH3]
  have hE9 : Ext H3 (H3.put l (appLoop .ready env mk)) (fun i => i = l) := Ext.put1 _ _ _
  have hEE9 : Ext H (H3.put l (appLoop .ready env mk)) F := (((hE1.mono (W' := F) (fun i _ h => h.elim)).trans hE2 (fun i _ h => (J.fs i).2 (.inl h))).trans hE3 (fun i _ h => (J.fs i).2 (.inr h))).trans hE9 (fun i _ h => (J.fs i).2 (.inl h))
  refine WP.nil_round rfl (fun E e1 e2 e3 => ⟨rfl, _, _, _, _, _, _, _, _, hl3, rfl, F, D, ⟨cs, ?_⟩, hEE9, fun i h => .inl h, fun i h => .inl h⟩)
  refine ⟨J.fs, ⟨n1, ?_, ?_⟩, get_put_self, ?_, hl7, by rw [lastSum_snoc]; exact hsl, fun i hi => ?_⟩
  · show l < H3.next; omega
  · show lv < H3.next; omega
  · refine (hE9.keep lv (by omega) (fun h => n1 h.symm)).trans ?_
    rw [lastFin_snoc, lastSum_snoc, ← hH3]; exact get_put_self
  · have := J.dn i hi
    show i < H3.next; omega
noncomputable def apCons (l lv mk : Nat) (env : Env) (e1 : env.n = 38) (e2 : env.g = Try.prog.globals.size) (e3 : EK [(8, .ptr (some (lv, 0)))] env) : Consumer l where
  J F D done H := ∃ cs, ApJ l lv (appLoop .ready env mk) F D done H cs
  fin := by
    rintro F D done H ⟨cs, J⟩ i (h | h)
    · obtain ⟨n1, n2, n3⟩ := J.ne
      rcases (J.fs i).1 h with rfl | rfl
      · exact n2
      · exact n3
    · exact J.dn i h
  stable := by
    rintro F D done H H' W ⟨cs, J⟩ hE hw
    obtain ⟨n1, n2, n3⟩ := J.ne
    have hn := hE.next
    exact ⟨cs, J.fs, ⟨n1, by omega, by omega⟩, hE.get n2 (hw _ (.inl ((J.fs _).2 (.inl rfl)))) J.gl, hE.get n3 (hw _ (.inl ((J.fs _).2 (.inr rfl)))) J.glv, J.cl, J.sl, fun i hi => by have := J.dn i hi; omega⟩
  step := by
    rintro F D done H r cells ⟨cs, J⟩ hr hfar hdl
    exact app_round e1 e2 e3 J hr

/-- What is appended. -/
def recB (rs : List Rec) (c : LCmd) : List UInt8 := putC c ++ sumR (lastSum rs) (putC c)
def AppR (H : LH) (bs : List UInt8) (c : LCmd) (o : LOut) (H' : LH) : Prop := Ext H H' none' ∧
  ((checkC c ≠ 0 ∧ o = .ret (.tuple [.slice none 0 (.ex 0), .int .i64 (checkC c)])) ∨
   (checkC c = 0 ∧ lastFin (recs bs) ≠ bs.length ∧ o = .ret (.tuple [.slice none 0 (.ex 0), .int .i64 15])) ∨
   (checkC c = 0 ∧ lastFin (recs bs) = bs.length ∧ ∃ v, o = .ret (.tuple [v, .int .i64 0]) ∧ OB H' v (bs ++ recB (recs bs) c) ∧ ∀ i, v.bid? = some i → H.next ≤ i))

theorem putC_len {c : LCmd} (hc : c.Ok) (h : checkC c = 0) : (putC c).length ≤ 1000010 := by
  have h1 := payload_len hc h
  have h2 := encU_len10 (x := (payload c).length) (by omega)
  unfold putC
  rw [List.length_append]; omega
/-- What is left behind a range over a function: its mark. -/
theorem mark_ret {S : FS} {R : LOut → LH → Prop} {m : Nat} {vs : List LV} {f : Nat} {rs : List ResultVar} [hf : FnRes Try.prog f rs] (hD : S.D = [markOf m]) (hfn : S.fn = f) (hm : S.H.get m = some (.defd false)) (hr : Lv.results Try.prog (S.H.put m (.defd true)) S.E rs = some vs)
    (hR : R (.ret (oneOr vs)) (S.H.put m (.defd true))) : DefsP Try.prog S none R := by
  obtain ⟨fn, g1, rfl⟩ := hf.out
  exact DefsP.mark hD rfl hm (DefsP.ret (fn := fn) rfl (by rw [← hfn] at g1; exact g1) hr hR)

theorem putq (H : LH) (c : LCmd) (hc : c.Ok) (cs : List LV) (hcs : CmdC H c cs) : CallP Try.prog 22 [.agg cs] H (fun o H' => Ext H H' none' ∧ ∃ (v : LV) (e : Int), o = .ret (.tuple [v, .int .i64 e]) ∧
    ((checkC c ≠ 0 ∧ e = checkC c) ∨ (checkC c = 0 ∧ e = 0 ∧ OB H' v (putC c) ∧ ∀ i, v.bid? = some i → H.next ≤ i))) := by
  refine (put H c hc cs hcs).mono ?_
  rintro o H' ⟨hE, ⟨h, rfl⟩ | ⟨h, v, rfl, h1, h2⟩⟩
  · exact ⟨hE, _, _, rfl, .inl ⟨h, rfl⟩⟩
  · exact ⟨hE, v, 0, rfl, .inr ⟨h, rfl, h1, h2⟩⟩

set_option maxHeartbeats 16000000 in
theorem append (H : LH) (b : LV) (bs : List UInt8) (hb : BV H b bs) (hbl : bs.length < 2 ^ 35) (c : LCmd) (hc : c.Ok) (cs : List LV) (hcs : CmdC H c cs) : CallP Try.prog 10 [b, .agg cs] H (AppR H bs c) := by
  have hone := cmd_one hcs
  have hl7 := cmd_len hcs
  refine en10 (by simp) ?_
  unfold c10
  generalize hH1 : H.new (.cells cs 28 true false) = H1
  have hn1 : H1.next = H.next + 1 := by rw [← hH1]; rfl
  have hE1 : Ext H H1 none' := by rw [← hH1]; exact (Ext.refl _ _).new _
  have hg1 : H1.get H.next = some (.cells cs 28 true false) := by rw [← hH1]; exact get_new_self
  refine WP.seq ?_
  refine WP.region rfl ?_
  refine WS.val rfl (LK.box rfl hone) ?_
  refine WS.val rfl (LK.assign rfl) ?_
  refine WS.val rfl (LK.assign rfl) ?_
  refine WS.nil ?_
  refine WP.sub (gs := [(5, _), (4, _), (3, _), (0, _)]) ?_ ⟨rfl, rfl, rfl, rfl, trivial⟩
  refine WP.seq ?_
  refine (?_ : WP Try.prog _ _ _ (H.new (.cells cs 28 true false)) _)
  rw [hH1]
  refine WP.region rfl ?_
  refine WS.val rfl (LK.load_agg (xs := cs) rfl hg1 (by rw [hl7]; omega) (by rw [List.drop_zero]; exact List.take_of_length_le (by rw [hl7]; omega))) ?_
  (refine WS.call rfl (LK.call rfl) (CallP.mono (putq H1 c hc cs (hcs.ext hE1 (fun _ _ _ _ h => h))) ?_); rintro _ H2 ⟨hE2, fr, e, rfl, hput⟩)
  refine WS.val rfl (LK.move rfl) ?_
  refine WS.val rfl (LK.extract rfl rfl) ?_
  refine WS.val rfl (LK.extract rfl rfl) ?_
  refine WS.val rfl (LK.assign rfl) ?_
  refine WS.val rfl (LK.assign rfl) ?_
  refine WS.nil ?_
  refine WP.sub (gs := [(7, _), (6, _), (5, _), (4, _), (0, _)]) ?_ ⟨rfl, rfl, rfl, rfl, rfl, trivial⟩
  refine WP.seq ?_
  refine WP.seq ?_
  refine WP.region rfl ?_
  refine WS.val rfl (LK.move rfl) ?_
  refine WS.val rfl (LK.neq rfl rfl) ?_
  refine WS.nil ?_
  refine WP.sub (gs := [(17, _), (7, _), (6, _), (5, _), (4, _), (0, _)]) ?_ ⟨rfl, rfl, rfl, rfl, rfl, rfl, trivial⟩
  refine WP.cond rfl (fun h17 => ?_) (fun h17 => ?_)
  · skip
    refine WP.seq ?_
    refine WP.region rfl ?_
    refine WS.val rfl (LK.move rfl) ?_
    refine WS.val rfl (LK.assign rfl) ?_
    refine WS.val rfl (LK.assign rfl) ?_
    refine WS.nil ?_
    refine WP.sub (gs := [(5, _), (4, _), (6, _), (0, _)]) ?_ ⟨rfl, rfl, rfl, rfl, trivial⟩
    have hne : checkC c ≠ 0 ∧ e = checkC c := by
      rcases hput with h | ⟨_, he, _⟩
      · exact h
      · rw [he] at h17
        simp at h17
    obtain ⟨hne, rfl⟩ := hne
    exact WP.ret rfl (Fin.ret' rfl rfl ⟨hE1.trans hE2 (fun i _ h => h), .inl ⟨hne, rfl⟩⟩)
  refine WP.skip ?_
  refine WP.seq ?_
  have hz : checkC c = 0 := by
    rcases hput with ⟨h, he⟩ | ⟨h, _⟩
    · rw [he] at h17
      exact absurd h (by simpa using h17)
    · exact h
  obtain ⟨hfr, hffar⟩ : OB H2 fr (putC c) ∧ ∀ i, fr.bid? = some i → H1.next ≤ i := by
    rcases hput with ⟨h, _⟩ | ⟨_, _, h⟩
    · exact absurd hz h
    · exact h
  have hpl := putC_len hc hz
  have hn2 := hE2.next
  generalize hH3 : H2.new (.cells zero12 55 true false) = H3
  have hn3 : H3.next = H2.next + 1 := by rw [← hH3]; rfl
  have hE3 : Ext H2 H3 none' := by rw [← hH3]; exact (Ext.refl _ _).new _
  have hlv3 : H3.get H2.next = some (.cells zero12 55 true false) := by rw [← hH3]; exact get_new_self
  generalize hH4 : H3.new (.cells [b] 22 true false) = H4
  have hn4 : H4.next = H3.next + 1 := by rw [← hH4]; rfl
  have hE4 : Ext H3 H4 none' := by rw [← hH4]; exact (Ext.refl _ _).new _
  have hbb4 : H4.get H3.next = some (.cells [b] 22 true false) := by rw [← hH4]; exact get_new_self
  have hE02 : Ext H H2 none' := hE1.trans hE2 (fun i _ h => h)
  have hE04 : Ext H H4 none' := (hE02.trans hE3 (fun i _ h => h)).trans hE4 (fun i _ h => h)
  refine WP.region rfl ?_
  refine WS.val rfl (LK.alloc) ?_
  refine WS.nil ?_
  refine WP.sub (gs := [(8, _), (6, _), (5, _), (4, _), (0, _)]) ?_ ⟨rfl, rfl, rfl, rfl, rfl, trivial⟩
  refine WP.seq ?_
  refine WP.seq ?_
  refine (?_ : WP Try.prog _ _ _ (H2.new (.cells zero12 55 true false)) _)
  rw [hH3]
  refine WP.region rfl ?_
  refine WS.val rfl (LK.move rfl) ?_
  (refine WS.call rfl (LK.call rfl) (CallP.mono (records H3 b (SV.one hb) (SV.cells hb)) ?_); rintro _ Hc ⟨rfl, rfl⟩)
  refine WS.nil ?_
  refine WP.sub (gs := [(20, _), (8, _), (6, _), (5, _), (4, _), (0, _)]) ?_ ⟨rfl, rfl, rfl, rfl, rfl, rfl, trivial⟩
  refine WP.block ?_
  refine (?_ : WP Try.prog _ _ _ (H3.new (.cells [b] 22 true false)) _)
  rw [hH4]
  refine WP.rangeFunc (gf := 35) (fi := []) (ca := [.ptr (some (H3.next, 0))]) rfl rfl (fun env e1 e2 e3 => ?_)
  have e4 : EK [(8, .ptr (some (H2.next, 0)))] env := e3.sub ⟨rfl, trivial⟩
  generalize hH5 : (H4.new (.defd false)).new (.loop .ready none 10 env [21] r10_6 (.block 1 r10_7) H4.next) = H5
  show CallP Try.prog 35 [.yield (H4.next + 1), .ptr (some (H3.next, 0))] H5 _
  have hn5 : H5.next = H4.next + 2 := by rw [← hH5]; rfl
  have hE5 : Ext H4 H5 none' := by rw [← hH5]; exact ((Ext.refl _ _).new _).new _
  have hm5 : H5.get H4.next = some (.defd false) := by rw [← hH5, get_new_old (by simp)]; exact get_new_self
  have hlo5 : H5.get (H4.next + 1) = some (appLoop .ready env H4.next) := by rw [← hH5]; exact get_new_self
  have hE05 : Ext H H5 none' := hE04.trans hE5 (fun i _ h => h)
  have hE25 : Ext H2 H5 none' := (hE3.trans hE4 (fun i _ h => h)).trans hE5 (fun i _ h => h)
  have J0 : ApJ (H4.next + 1) H2.next (appLoop .ready env H4.next) (fun i => i = H4.next + 1 ∨ i = H2.next) (fun _ => False) [] H5 zero7 :=
    ⟨fun i => Iff.rfl, ⟨by omega, by omega, by omega⟩, hlo5, hE5.get (by omega) (fun h => h) (hE4.get (by omega) (fun h => h) hlv3), rfl, rfl, fun i h => h.elim⟩
  refine (records1 (apCons (H4.next + 1) H2.next H4.next env e1 e2 e4) H5 H3.next b bs _ _ ⟨_, J0⟩ (by omega) ⟨true, false, hE5.get (by omega) (fun h => h) hbb4⟩ (hb.ext hE05 (fun i _ h => h)) (by omega) (by omega) (fun i hi h => by have := hb.lt hi; omega)).mono ?_
  rintro o H6 ⟨rfl, F, D, ⟨cs6, J⟩, hE6, hF6, hD6⟩
  have hn6 := hE6.next
  refine WP.endRange J.gl (by simp) ?_
  obtain ⟨m1, m2, m3⟩ := J.ne
  generalize hH7 : H6.put (H4.next + 1) (appLoop .exhausted env H4.next) = H7
  refine (?_ : WP Try.prog _ _ _ (H6.put (H4.next + 1) (appLoop .exhausted env H4.next)) _)
  rw [hH7]
  have hn7 : H7.next = H6.next := by rw [← hH7]; rfl
  have hE7 : Ext H6 H7 (fun i => i = H4.next + 1) := by rw [← hH7]; exact Ext.put1 _ _ _
  have hlv7 := hE7.get (i := H2.next) (by omega) (by omega) J.glv
  have hm7 : H7.get H4.next = some (.defd false) := hE7.get (by omega) (by omega) (hE6.get (by omega) (by omega) hm5)
  have hE07 : Ext H H7 none' := (hE05.trans hE6 (fun i hi h => by omega)).trans hE7 (fun i hi h => by omega)
  have hb7 := hb.ext hE07 (fun i _ h => h)
  have hE57 : Ext H5 H7 (fun i => i = H4.next + 1 ∨ i = H2.next) := hE6.trans hE7 (fun i _ h => .inl h)
  have hfr7 : OB H7 fr (putC c) := (hfr.ext hE25 (fun i _ h => h)).ext hE57 (fun i hi h => by have := hfr.lt hi; omega)
  have hsl := J.sl
  have hlen12 : (cs6 ++ (.int .i64 (lastFin (recs bs) : Int) :: bytesL (lastSum (recs bs)))).length = 12 := by
    rw [List.length_append, List.length_cons, bytesL_length, J.sl, J.cl]
  have hfin12 : (cs6 ++ (.int .i64 (lastFin (recs bs) : Int) :: bytesL (lastSum (recs bs))))[0 + 7]? = some (.int .i64 (lastFin (recs bs) : Int)) := by
    rw [List.getElem?_append_right (by rw [J.cl]; omega), J.cl]; rfl
  have hsum12 : ((cs6 ++ (.int .i64 (lastFin (recs bs) : Int) :: bytesL (lastSum (recs bs)))).drop (0 + 8)).take 4 = bytesL (lastSum (recs bs)) := by
    rw [List.drop_append, List.drop_eq_nil_of_le (by rw [J.cl]; omega), List.nil_append, J.cl]
    show (bytesL (lastSum (recs bs))).take 4 = _
    exact List.take_of_length_le (by rw [bytesL_length, J.sl]; omega)
  refine WP.inBlock ?_
  refine WP.seq ?_
  refine WP.seq ?_
  refine WP.region rfl ?_
  refine WS.val rfl (LK.fieldAddr rfl rfl) ?_
  refine WS.val rfl (LK.load rfl hlv7 hfin12) ?_
  refine WS.val rfl (LK.move rfl) ?_
  refine WS.val rfl (SV.len hb7 rfl) ?_
  refine WS.val rfl (LK.neq rfl rfl) ?_
  refine WS.nil ?_
  refine WP.sub (gs := [(27, _), (0, _), (6, _), (8, _)]) ?_ ⟨rfl, rfl, rfl, rfl, trivial⟩
  refine WP.cond rfl (fun h27 => ?_) (fun h27 => ?_)
  · skip
    refine WP.seq ?_
    refine WP.region rfl ?_
    refine WS.val rfl (LK.assign rfl) ?_
    refine WS.val rfl (LK.assign rfl) ?_
    refine WS.nil ?_
    refine WP.sub (gs := [(5, _), (4, _), (0, _), (6, _), (8, _)]) ?_ ⟨rfl, rfl, rfl, rfl, rfl, trivial⟩
    first
      | (have hm13 : H13.get H4.next = some (.defd false) := by
           rw [hE13.keep _ (by rw [hH12]; omega) (fun h => h), hH12]
           exact hE12.get (by omega) (fun h => h) (hE7_11.get (by omega) (fun h => h) hm7)
         have n13 := hE13.next
         rw [hH12] at n13
         have hE15 : Ext H13 (H13.put H4.next (.defd true)) (fun i => i = H4.next) := Ext.put1 _ _ _
         have hE013 : Ext H H13 none' := ((hE07.trans hE7_11 (fun i _ h => h)).trans hE12 (fun i _ h => h)).trans (by rw [hH12] at hE13; exact hE13) (fun i _ h => h)
         have hE16 : Ext H (H13.put H4.next (.defd true)) none' := hE013.trans hE15 (fun i hi h => by have h : i = H4.next := h; omega)
         have hw' : OB (H13.put H4.next (.defd true)) w (bs ++ recB (recs bs) c) := by
           have := hw.ext hE15 (fun i hi h => by have := hwf i hi; rw [hH12] at this; have h : i = H4.next := h; omega)
           unfold recB
           rw [← List.append_assoc]
           exact this
         exact WP.ret rfl (fun E f1 f2 f3 => mark_ret (m := H4.next) (f := 10) (vs := [w, .int .i64 0]) rfl rfl hm13 (resK_results f3 rfl) ⟨hE16, .inr (.inr ⟨hz, hfin, w, rfl, hw', fun i hi => by have := hwf i hi; rw [hH12] at this; omega⟩)⟩))
      | (have hne : lastFin (recs bs) ≠ bs.length := by
           intro h
           rw [h] at h27
           simp at h27
         have hE15 : Ext H7 (H7.put H4.next (.defd true)) (fun i => i = H4.next) := Ext.put1 _ _ _
         have hE16 : Ext H (H7.put H4.next (.defd true)) none' := hE07.trans hE15 (fun i hi h => by have h : i = H4.next := h; omega)
         exact WP.ret rfl (fun E f1 f2 f3 => mark_ret (m := H4.next) (f := 10) (vs := [.slice none 0 (.ex 0), .int .i64 15]) rfl rfl hm7 (resK_results f3 rfl) ⟨hE16, .inr (.inl ⟨hz, hne, rfl⟩)⟩))
  refine WP.skip ?_
  refine WP.seq ?_
  have hfin : lastFin (recs bs) = bs.length := by
    simp only [bne_eq_false_iff_eq] at h27
    omega
  refine WP.region rfl ?_
  refine WS.val rfl (LK.fieldAddr rfl rfl) ?_
  refine WS.val rfl (LK.load_agg (xs := bytesL (lastSum (recs bs))) rfl hlv7 (by rw [hlen12]; omega) hsum12) ?_
  (refine WS.call rfl (LK.call rfl) (CallP.mono (chain H7 (lastSum (recs bs)) J.sl) ?_); rintro _ Hc ⟨rfl, rfl⟩; (generalize hH8 : H7.new (.cells (bytesL (lastSum (recs bs))) 53 true false) = H8); (have hn8 : H8.next = H7.next + 1 := by rw [← hH8]; rfl); (have hE8 : Ext H7 H8 none' := by rw [← hH8]; exact (Ext.refl _ _).new _); (have hcb8 : H8.get H7.next = some (.cells (bytesL (lastSum (recs bs))) 53 true false) := by rw [← hH8]; exact get_new_self); (have hfr8 := hfr7.ext hE8 (fun i _ h => h)))
  refine WS.val rfl (LK.move rfl) ?_
  (refine WS.call rfl (LK.call_func rfl rfl) (CallP.mono (chain1 H8 H7.next (lastSum (recs bs)) (putC c) fr (by omega) hcb8 J.sl hfr8.sv (by omega)) ?_); rintro _ H9 ⟨rfl, hc9, hE9⟩)
  refine WS.val rfl (LK.alloc) ?_
  refine WS.skip rfl (LK.store (n := 4) rfl rfl get_new_self rfl (bytesL_one _) (Nat.le_refl 4)) ?_
  refine WS.nil ?_
  refine WP.sub (gs := [(10, _), (0, _), (6, _)]) ?_ ⟨rfl, rfl, rfl, trivial⟩
  refine WP.seq ?_
  refine (?_ : WP Try.prog _ _ _ ((H9.new (.cells [.int .u8 0, .int .u8 0, .int .u8 0, .int .u8 0] 53 true false)).put H9.next (.cells (bytesL (sumR (lastSum (recs bs)) (putC c))) 53 true false)) _)
  generalize hH11 : (H9.new (.cells [.int .u8 0, .int .u8 0, .int .u8 0, .int .u8 0] 53 true false)).put H9.next (.cells (bytesL (sumR (lastSum (recs bs)) (putC c))) 53 true false) = H11
  have hn11 : H11.next = H9.next + 1 := by rw [← hH11]; rfl
  have hE11 : Ext H9 H11 none' := by rw [← hH11]; exact ((Ext.refl _ _).new _).put _ (fun h => by omega)
  have hs11 : H11.get H9.next = some (.cells (bytesL (sumR (lastSum (recs bs)) (putC c))) 53 true false) := by rw [← hH11]; exact get_put_self
  have n9 := hE9.next
  have hE8_11 : Ext H8 H11 (fun i => i = H7.next) := hE9.trans hE11 (fun i _ h => h.elim)
  have hE7_11 : Ext H7 H11 none' := hE8.trans hE8_11 (fun i hi h => by have h : i = H7.next := h; omega)
  have hb11 := hb7.ext hE7_11 (fun i _ h => h)
  have hf11 := hfr7.bv.ext hE7_11 (fun i _ h => h)
  generalize hH12 : H11.new (.cells [b, fr, .slice (some (H9.next, 0)) 4 (.ex 4)] 22 true false) = H12
  have hn12 : H12.next = H11.next + 1 := by rw [← hH12]; rfl
  have hE12 : Ext H11 H12 none' := by rw [← hH12]; exact (Ext.refl _ _).new _
  have hg12 : H12.get H11.next = some (.cells [b, fr, .slice (some (H9.next, 0)) 4 (.ex 4)] 22 true false) := by rw [← hH12]; exact get_new_self
  have hs12 : BV H12 (.slice (some (H9.next, 0)) 4 (.ex 4)) (sumR (lastSum (recs bs)) (putC c)) :=
    .inr ⟨H9.next, 0, _, _, _, _, _, rfl, by omega, hE12.get (by omega) (fun h => h) hs11, Nat.le_refl _, by rw [bytesL_length, sumR_len]; omega, by rw [List.drop_zero]; exact List.take_of_length_le (by rw [bytesL_length, sumR_len]; omega)⟩
  have hput0 : 0 < (putC c).length := by unfold putC; rw [List.length_append]; have := encU_pos (payload c).length; omega
  have hcat := concat H12 H11.next [b, fr, .slice (some (H9.next, 0)) 4 (.ex 4)] [bs, putC c, sumR (lastSum (recs bs)) (putC c)] rfl (by omega) hg12 (by
    intro k hk w hw
    match k, hk with
    | 0, _ => cases hw; exact hb11.ext hE12 (fun i _ h => h)
    | 1, _ => cases hw; exact hf11.ext hE12 (fun i _ h => h)
    | 2, _ => cases hw; exact hs12) (by show 0 < bs.length + (putC c).length + (sumR (lastSum (recs bs)) (putC c)).length; omega) (by
    intro k hk
    match k, hk with
    | 0, _ => show bs.length < _; omega
    | 1, _ => show (putC c).length < _; omega
    | 2, _ => show (sumR (lastSum (recs bs)) (putC c)).length < _; rw [sumR_len]; decide)
  have hfill : fillL (fun i => some (i * 1, 1)) (zerosL 3 (LV.slice none 0 (.ex 0)).cells) [(0, b), (1, fr), (2, .slice (some (H9.next, 0)) 4 (.ex 4))] = some [b, fr, .slice (some (H9.next, 0)) 4 (.ex 4)] := by
    have e1 := SV.cells hb
    have e2 := hfr.sv.cells
    show fillL _ [LV.slice none 0 (.ex 0), LV.slice none 0 (.ex 0), LV.slice none 0 (.ex 0)] _ = _
    simp only [fillL, e1, e2]
    simp [splice, LV.cells]
  rw [← hH12] at hcat
  refine WP.region rfl ?_
  refine WS.val rfl (LK.move rfl) ?_
  refine WS.val rfl (LK.move rfl) ?_
  refine WS.val rfl (LK.slice rfl rfl rfl rfl slice_arr) ?_
  refine WS.val rfl (LK.buildSlice rfl (by decide) hfill) ?_
  (refine WS.call rfl (LK.call rfl) (CallP.mono (hcat) ?_); rintro _ H13 ⟨hE13, w, rfl, hw, hwf⟩)
  refine WS.val rfl (LK.assign rfl) ?_
  refine WS.val rfl (LK.assign rfl) ?_
  refine WS.nil ?_
  refine WP.sub (gs := [(5, _), (4, _)]) ?_ ⟨rfl, rfl, trivial⟩
  first
    | (have hm13 : H13.get H4.next = some (.defd false) := by
         rw [hE13.keep _ (by rw [hH12]; omega) (fun h => h), hH12]
         exact hE12.get (by omega) (fun h => h) (hE7_11.get (by omega) (fun h => h) hm7)
       have n13 := hE13.next
       rw [hH12] at n13
       have hE15 : Ext H13 (H13.put H4.next (.defd true)) (fun i => i = H4.next) := Ext.put1 _ _ _
       have hE013 : Ext H H13 none' := ((hE07.trans hE7_11 (fun i _ h => h)).trans hE12 (fun i _ h => h)).trans (by rw [hH12] at hE13; exact hE13) (fun i _ h => h)
       have hE16 : Ext H (H13.put H4.next (.defd true)) none' := hE013.trans hE15 (fun i hi h => by have h : i = H4.next := h; omega)
       have hw' : OB (H13.put H4.next (.defd true)) w (bs ++ recB (recs bs) c) := by
         have := hw.ext hE15 (fun i hi h => by have := hwf i hi; rw [hH12] at this; have h : i = H4.next := h; omega)
         unfold recB
         rw [← List.append_assoc]
         exact this
       exact WP.ret rfl (fun E f1 f2 f3 => mark_ret (m := H4.next) (f := 10) (vs := [w, .int .i64 0]) rfl rfl hm13 (resK_results f3 rfl) ⟨hE16, .inr (.inr ⟨hz, hfin, w, rfl, hw', fun i hi => by have := hwf i hi; rw [hH12] at this; omega⟩)⟩))
    | (have hne : lastFin (recs bs) ≠ bs.length := by
         intro h
         rw [h] at h27
         simp at h27
       have hE15 : Ext H7 (H7.put H4.next (.defd true)) (fun i => i = H4.next) := Ext.put1 _ _ _
       have hE16 : Ext H (H7.put H4.next (.defd true)) none' := hE07.trans hE15 (fun i hi h => by have h : i = H4.next := h; omega)
       exact WP.ret rfl (fun E f1 f2 f3 => mark_ret (m := H4.next) (f := 10) (vs := [.slice none 0 (.ex 0), .int .i64 15]) rfl rfl hm7 (resK_results f3 rfl) ⟨hE16, .inr (.inl ⟨hz, hne, rfl⟩)⟩))
end Go.Proofs.Ythakgknamfopcaa
