/- The statement JournalFlips, walked. -/
import Derived.Test.YthakgknamfopcaaWT
namespace Go.Proofs.Ythakgknamfopcaa
open Go Go.Lv
set_option linter.unusedVariables false
set_option maxRecDepth 100000

section
variable {P : Program} [Known] {G : Nat} {g : Kno} {H : LH} {x y : Operand} {t t' : Nat} {k : IntKind} {a b : Int}
theorem LK.gtr_to {c : Bool} (hx : evk g G x = some (.int k a)) (hy : evk g G y = some (.int k b)) (e : decide (b < a) = c) : LK P G g H (.binOp .gtr t x y t') (.val (.bool c) H) := e ▸ LK.gtr hx hy
theorem LK.xor_to {c : Int} (hx : evk g G x = some (.int k a)) (hy : evk g G y = some (.int k b)) (e : bitI .xor k a b = c) : LK P G g H (.binOp .xor t x y t') (.val (.int k c) H) := e ▸ LK.xor hx hy
theorem LK.rem_to {c : Int} (hx : evk g G x = some (.int k a)) (hy : evk g G y = some (.int k b)) (hb : b ≠ 0) (e : a.tmod b = c) : LK P G g H (.binOp .rem t x y t') (.val (.int k c) H) := e ▸ LK.rem hx hy hb
end
theorem lastFin_take_le {cl : List LCmd} (hok : ∀ c ∈ cl, c.Ok) {w : Nat} (hw : w ≤ (jof cl).rs.length) : lastFin ((jof cl).rs.take w) ≤ (jof cl).b.length := by
  cases w with
  | zero => exact Nat.zero_le _
  | succ w => rw [lastFin_take hw]; exact fin_le hok hw
theorem jof_nil {cl : List LCmd} (hok : ∀ c ∈ cl, c.Ok) (h : (jof cl).b.length = 0) : (kept cl).length = 0 := by
  have := chain_len (jof cl).b 0 _ _ (Nat.zero_le _) (jof_good cl hok).ch
  have := jof_rs_len cl
  omega
theorem fin_more {cl : List LCmd} (hok : ∀ c ∈ cl, c.Ok) {i w : Nat} (hw : w < (jof cl).rs.length) (h : (jof cl).rs[w].fin ≤ i) (hi : i < (jof cl).b.length) : w + 1 < (jof cl).rs.length := by
  have hg := (jof_good cl hok).fin
  by_cases he : w + 1 < (jof cl).rs.length
  · exact he
  · exfalso
    have h1 := lastFin_take hw
    rw [List.take_of_length_le (by omega)] at h1
    omega
theorem rs_pos {cl : List LCmd} (hok : ∀ c ∈ cl, c.Ok) (h : 0 < (jof cl).b.length) : 0 < (jof cl).rs.length := by
  have hg := (jof_good cl hok).fin
  cases hr : (jof cl).rs with
  | nil => rw [hr] at hg; simp [lastFin] at hg; omega
  | cons r rs => simp
/-- One's own bytes: the block that they are. -/
theorem OB.at {H : LH} {v : LV} {bs : List UInt8} (h : OB H v bs) (hn : 0 < bs.length) : ∃ i c opn, i < H.next ∧ v = .slice (some (i, 0)) bs.length c ∧ H.get i = some (.cells (bytesL bs) 5 true opn) ∧
    ∀ (j : Nat) (y : UInt8), BV (H.put i (.cells ((bytesL bs).set (0 + j * 1) (.int .u8 (y.toNat : Int))) 5 true opn)) v (bs.set j y) := by
  have key : ∀ (j : Nat) (y : UInt8), (bytesL bs).set (0 + j * 1) (.int .u8 (y.toNat : Int)) = bytesL (bs.set j y) := fun j y => by
    simp [bytesL, List.map_set]
  rcases h with ⟨h0, _⟩ | ⟨i, hi, rfl, hg, hl⟩ | ⟨i, opn, hi, rfl, hg, hl⟩
  · omega
  · refine ⟨i, _, _, hi, rfl, hg, fun j y => ?_⟩
    rw [key]
    refine .inr ⟨i, 0, .op 1, bytesL (bs.set j y), 5, true, true, by rw [List.length_set], by simpa using hi, get_put_self, rfl, by simp [bytesL], by rw [List.drop_zero]; exact List.take_of_length_le (by simp [bytesL])⟩
  · refine ⟨i, _, _, hi, rfl, hg, fun j y => ?_⟩
    rw [key]
    refine .inr ⟨i, 0, _, bytesL (bs.set j y), 5, true, opn, by rw [List.length_set], by simpa using hi, get_put_self, by rw [List.length_set]; exact Nat.le_refl _, by simp [bytesL], by rw [List.drop_zero]; exact List.take_of_length_le (by simp [bytesL])⟩

set_option maxHeartbeats 16000000 in
theorem flipsLaw (H : LH) (a : LV) (cl : List LCmd) (la : List LV) (ha : CV H a cl la) (hla : ∀ x ∈ la, ∀ i, x.bid? = some i → i < H.next) (hok : ∀ c ∈ cl, c.Ok) (p : Nat) (hp : p < 65536) (b : UInt8) :
    CallP Try.prog 5 [a, .int .u16 (p : Int), .int .u8 (b.toNat : Int)] H (fun o H' => o = .ret (.bool true)) := by
  refine en5 (by simp) ?_
  unfold c5
  refine WP.seq ?_
  refine WP.region rfl ?_
  refine WS.val rfl (LK.assign rfl) ?_
  refine WS.nil ?_
  refine WP.seq ?_
  refine WP.seq ?_
  refine WP.region rfl ?_
  refine WS.val rfl (LK.move rfl) ?_
  (refine WS.call rfl (LK.call rfl) (CallP.mono (few H a cl la ha 20 (by decide)) ?_); rintro _ Hf ⟨rfl, q, rfl, hq1⟩)
  refine WS.val rfl (LK.not rfl) ?_
  refine WS.val rfl (LK.move rfl) ?_
  first | refine WS.val rfl (LK.move rfl) ?_ | refine WS.no rfl ?_ | (refine WS.guard rfl (fun h22 => ?_) (fun h22 => ?_) <;> first | refine WS.val rfl (LK.move rfl) ?_ | refine WS.no rfl ?_)
  all_goals first | refine WS.val rfl (LK.eql rfl rfl) ?_ | refine WS.no rfl ?_
  all_goals first | refine WS.val rfl (LK.pick_t rfl rfl) ?_ | refine WS.val rfl (LK.pick_f rfl rfl) ?_
  all_goals
   refine WS.nil ?_
   refine WP.sub (gs := [(25, _), (6, _), (0, _), (1, _), (2, _)]) ?_ ⟨rfl, rfl, rfl, rfl, rfl, trivial⟩
   refine WP.cond rfl (fun h25 => ?_) (fun h25 => ?_)
   · skip
     refine WP.seq ?_
     refine WP.region rfl ?_
     (refine WS.call rfl (LK.call rfl) (CallP.mono (worksK _) ?_); rintro _ Hc ⟨rfl, rfl⟩)
     refine WS.val rfl (LK.assign rfl) ?_
     refine WS.nil ?_
     refine WP.sub (gs := [(6, _), (0, _), (1, _), (2, _)]) ?_ ⟨rfl, rfl, rfl, rfl, trivial⟩
     exact WP.ret rfl (Fin.ret' rfl rfl rfl)
   refine WP.skip ?_
   refine WP.seq ?_
   have hbz : ((b.toNat : Int) == 0) = false := by
     first | exact h25 | (simp at h25; done)
   have hq : q = true := by
     cases q
     · simp at h22 h25
     · rfl
   obtain ⟨hl20, hsm⟩ := hq1 hq
   have hjl := jof_len cl hok
   have hgood := jof_good cl hok
   have hkl := kept_le cl
   have hrl := jof_rs_len cl
   have hke : ∀ h : (((jof cl).b.length : Int) == 0) = true, (((kept cl).length : Int) == 0) = true := fun h => by
     have := jof_nil hok (by have := eq_of_beq h; omega)
     rw [this]; rfl
   refine WP.region rfl ?_
   refine WS.val rfl (LK.move rfl) ?_
   (refine WS.call rfl (LK.call rfl) (CallP.mono (journaled Hf a cl la ha hla hok (by omega)) ?_); rintro _ Hj ⟨vb, vk, ve, lk, rfl, S⟩)
   refine WS.val rfl (LK.move rfl) ?_
   refine WS.val rfl (LK.extract rfl rfl) ?_
   refine WS.val rfl (LK.extract rfl rfl) ?_
   refine WS.val rfl (LK.extract rfl rfl) ?_
   refine WS.val rfl (LK.assign rfl) ?_
   refine WS.val rfl (LK.assign rfl) ?_
   refine WS.val rfl (LK.assign rfl) ?_
   refine WS.nil ?_
   refine WP.sub (gs := [(9, _), (8, _), (7, _), (6, _), (1, _), (2, _)]) ?_ ⟨rfl, rfl, rfl, rfl, rfl, rfl, trivial⟩
   refine WP.seq ?_
   refine WP.seq ?_
   refine WP.region rfl ?_
   refine WS.val rfl (LK.move rfl) ?_
   refine WS.val rfl (SV.len S.b rfl) ?_
   refine WS.val rfl (LK.eql rfl rfl) ?_
   refine WS.nil ?_
   refine WP.sub (gs := [(35, _), (9, _), (8, _), (7, _), (6, _), (1, _), (2, _)]) ?_ ⟨rfl, rfl, rfl, rfl, rfl, rfl, rfl, trivial⟩
   refine WP.cond rfl (fun h35 => ?_) (fun h35 => ?_)
   · skip
     refine WP.seq ?_
     refine WP.region rfl ?_
     refine WS.val rfl (LK.move rfl) ?_
     refine WS.val rfl (SV.len S.k.sv rfl) ?_
     refine WS.val rfl (LK.eql_to rfl rfl (hke h35)) ?_
     refine WS.val rfl (LK.move rfl) ?_
     (refine WS.call rfl (LK.call rfl) (CallP.mono (worksK _) ?_); rintro _ Hc ⟨rfl, rfl⟩)
     all_goals (refine WS.val rfl (LK.pick_t rfl rfl) ?_)
     all_goals (refine WS.val rfl (LK.assign rfl) ?_)
     all_goals
      refine WS.nil ?_
      refine WP.sub (gs := [(6, _), (9, _), (8, _), (7, _), (1, _), (2, _)]) ?_ ⟨rfl, rfl, rfl, rfl, rfl, rfl, trivial⟩
      exact WP.ret rfl (Fin.ret' rfl rfl rfl)
   refine WP.skip ?_
   refine WP.seq ?_
   have hb0 : 0 < (jof cl).b.length := by
     rcases Nat.eq_zero_or_pos (jof cl).b.length with h | h
     · rw [h] at h35; simp at h35
     · exact h
   have hbn : ((jof cl).b.length : Int) ≠ 0 := by omega
   obtain ⟨i, hi⟩ : ∃ i, i = p % (jof cl).b.length := ⟨_, rfl⟩
   have hil : i < (jof cl).b.length := by rw [hi]; exact Nat.mod_lt _ hb0
   have hrem : (IntKind.i64.wrap (p : Int)).tmod ((jof cl).b.length : Int) = (i : Int) := by
     rw [wrap_i64 (by omega) (by omega), hi]
     rfl
   refine WP.region rfl ?_
   refine WS.val rfl (LK.move rfl) ?_
   refine WS.val rfl (LK.conv_int rfl) ?_
   refine WS.val rfl (LK.move rfl) ?_
   refine WS.val rfl (SV.len S.b rfl) ?_
   refine WS.val rfl (LK.rem_to rfl rfl hbn hrem) ?_
   refine WS.val rfl (LK.assign rfl) ?_
   refine WS.nil ?_
   refine WP.sub (gs := [(10, _), (9, _), (8, _), (7, _), (6, _), (2, _)]) ?_ ⟨rfl, rfl, rfl, rfl, rfl, rfl, trivial⟩
   refine WP.seq ?_
   refine WP.region rfl ?_
   refine WS.val rfl (LK.assign rfl) ?_
   refine WS.nil ?_
   refine WP.seq ?_
   refine WP.block ?_
   refine WP.loop ?_
   have hrs := rs_pos hok hb0
   refine WP.sub (gs := [(2, .int .u8 (b.toNat : Int)), (7, vb), (8, vk), (9, ve), (10, .int .i64 (i : Int)), (11, .int .i64 ((0 : Nat) : Int))]) ?_ ⟨rfl, rfl, rfl, rfl, rfl, rfl, trivial⟩
   refine WP.inv (fun m g H' => ∃ (w : Nat), m = (jof cl).rs.length - w ∧ w < (jof cl).rs.length ∧ H' = Hj ∧ g = [(2, .int .u8 (b.toNat : Int)), (7, vb), (8, vk), (9, ve), (10, .int .i64 (i : Int)), (11, .int .i64 (w : Int))] ∧ ∀ k, (hk : k < (jof cl).rs.length) → k < w → (jof cl).rs[k].fin ≤ i) (n := (jof cl).rs.length) ⟨0, rfl, hrs, rfl, rfl, fun k _ h => absurd h (Nat.not_lt_zero _)⟩ ?_
   rintro m g H' ⟨w, rfl, hlt, hHj, rfl, hlx⟩ ih
   subst hHj
   have hEv := S.e.sv
   obtain ⟨i1, o1, c1, cs1, e1, w1, p1, hv1, _, g1, k1⟩ := hEv.at1 (k := w) (by omega)
   rw [ends_get hlt] at k1
   have hk1 : IntKind.i64.wrap ((w : Int) + 1) = ((w + 1 : Nat) : Int) := by rw [wrap_i64 (by omega) (by omega)]; rfl
   have hix : natOf (.int .i64 (w : Int)) = some w := natOf_cast
   have hxk : w < (kept cl).length := by omega
   have hfl := fin_le hok hlt
   by_cases hfn : (jof cl).rs[w].fin ≤ i
   · have hd52 : decide (((jof cl).rs[w].fin : Int) ≤ (i : Int)) = true := decide_eq_true (by omega)
     have hw1 := fin_more hok hlt hfn hil
     refine WP.seq ?_
     refine WP.seq ?_
     refine WP.region rfl ?_
     refine WS.val rfl (LK.move rfl) ?_
     refine WS.val rfl (LK.move rfl) ?_
     refine WS.val rfl (LK.indexAddr (congrArg some hv1) rfl hix hxk) ?_
     refine WS.val rfl (LK.load rfl g1 k1) ?_
     refine WS.val rfl (LK.move rfl) ?_
     refine WS.val rfl (LK.leq_to rfl rfl hd52) ?_
     refine WS.nil ?_
     refine WP.cond rfl (fun h52 => ?_) (fun h52 => ?_)
     rotate_left
     · exfalso; simp at h52; done
     refine WP.skip ?_
     refine WP.block ?_
     refine WP.region rfl ?_
     refine WS.val rfl (LK.move rfl) ?_
     refine WS.val rfl (LK.add_to rfl rfl hk1) ?_
     refine WS.val rfl (LK.assign rfl) ?_
     refine WS.nil ?_
     refine WP.inBlock ?_
     exact WP.sub (gs := [(2, _), (7, _), (8, _), (9, _), (10, _), (11, .int .i64 ((w + 1 : Nat) : Int))]) (ih ((jof cl).rs.length - (w + 1)) _ _ (by omega) ⟨w + 1, rfl, hw1, rfl, rfl, fun k hk h => by rcases Nat.lt_succ_iff_lt_or_eq.1 h with h | rfl; exact hlx k hk h; exact hfn⟩) ⟨rfl, rfl, rfl, rfl, rfl, rfl, trivial⟩
   · have hd52 : decide (((jof cl).rs[w].fin : Int) ≤ (i : Int)) = false := decide_eq_false (by omega)
     rcases Nat.eq_zero_or_pos w with rfl | hpos
     · skip
       have hlw : lastFin ((jof cl).rs.take 0) ≤ (jof cl).b.length := lastFin_take_le hok (by omega)
       obtain ⟨size, k, hu⟩ := head_of hgood hlt
       obtain ⟨hk1, hk2, hk3⟩ := getU_spec hu
       rw [List.length_drop] at hk3
       have hcl3 : ((jof cl).rs.take 0).length = ((kept cl).take 0).length := by rw [← jof_cmds]; simp
       have hcl4 : ((jof cl).rs.take 0).map (·.c) = (kept cl).take 0 := by rw [← jof_cmds, List.map_take]
       have hflip := fun (x : UInt8) h3 hx => recs_flip (x := x) hgood hlt (mem_take_get hlx) (Nat.lt_of_not_le hfn) hu h3 hil hx
       have hrl' : lastFin ((jof cl).rs.take 0) = lastFin ((jof cl).rs.take 0) := rfl
       generalize hBdef : lastFin ((jof cl).rs.take 0) = B at *
       have hB0 : B = 0 := hBdef.symm
       subst hB0
       have hd56 : decide ((0 : Int) < ((0 : Nat) : Int)) = false := by decide
       obtain ⟨v', hsl, hb', hv'⟩ := BV.slice (v := vb) (bs := (jof cl).b) S.b (t := 22) (lo := some (.int .i64 ((0 : Nat) : Int))) (hi := none) (l := 0) (r := (jof cl).b.length) (natOf_cast (k := .i64)) rfl hlw (Nat.le_refl _)
       rw [List.take_of_length_le (by rw [List.length_drop]; omega)] at hb'
       have hget := getUint _ v' _ hb'
       rw [hu] at hget
       have hBk : IntKind.i64.wrap ((0 : Int) + (k : Int)) = ((0 + k : Nat) : Int) := by rw [wrap_i64 (by omega) (by omega)]; rfl
       have hWl : 0 ≤ (kept cl).length := Nat.zero_le _
       have hne1 : ((0 : Int) == (0 : Int)) = true := by simp
       refine WP.seq ?_
       refine WP.seq ?_
       refine WP.region rfl ?_
       refine WS.val rfl (LK.move rfl) ?_
       refine WS.val rfl (LK.move rfl) ?_
       refine WS.val rfl (LK.indexAddr (congrArg some hv1) rfl hix hxk) ?_
       refine WS.val rfl (LK.load rfl g1 k1) ?_
       refine WS.val rfl (LK.move rfl) ?_
       refine WS.val rfl (LK.leq_to rfl rfl hd52) ?_
       refine WS.nil ?_
       refine WP.cond rfl (fun h52 => ?_) (fun h52 => ?_)
       · exfalso; simp at h52; done
       refine WP.exit rfl ?_
       refine WP.seq ?_
       refine WP.region rfl ?_
       refine WS.val rfl (LK.assign rfl) ?_
       refine WS.nil ?_
       refine WP.sub (gs := [(12, _), (2, _), (7, _), (8, _), (9, _), (10, _), (11, _)]) ?_ ⟨rfl, rfl, rfl, rfl, rfl, rfl, rfl, trivial⟩
       refine WP.seq ?_
       refine WP.seq ?_
       refine WP.region rfl ?_
       refine WS.val rfl (LK.move rfl) ?_
       refine WS.val rfl (LK.gtr_to rfl rfl hd56) ?_
       refine WS.nil ?_
       refine WP.sub (gs := [(56, _), (12, _), (2, _), (7, _), (8, _), (9, _), (10, _), (11, _)]) ?_ ⟨rfl, rfl, rfl, rfl, rfl, rfl, rfl, rfl, trivial⟩
       refine WP.cond rfl (fun h56 => ?_) (fun h56 => ?_)
       · exfalso; simp at h56; done
       refine WP.skip ?_
       refine WP.seq ?_
       refine WP.region rfl ?_
       refine WS.val rfl (LK.move rfl) ?_
       refine WS.val rfl (LK.move rfl) ?_
       refine WS.val rfl (LK.slice rfl rfl rfl rfl hsl) ?_
       (refine WS.call rfl (LK.call rfl) (CallP.mono (hget) ?_); rintro _ Hc ⟨rfl, rfl⟩)
       refine WS.val rfl (LK.move rfl) ?_
       refine WS.val rfl (LK.extract rfl rfl) ?_
       refine WS.val rfl (LK.extract rfl rfl) ?_
       refine WS.val rfl (LK.extract rfl rfl) ?_
       refine WS.val rfl (LK.assign rfl) ?_
       refine WS.val rfl (LK.assign rfl) ?_
       refine WS.val rfl (LK.assign rfl) ?_
       refine WS.nil ?_
       refine WP.sub (gs := [(15, _), (14, _), (12, _), (2, _), (7, _), (8, _), (10, _), (11, _)]) ?_ ⟨rfl, rfl, rfl, rfl, rfl, rfl, rfl, rfl, trivial⟩
       refine WP.seq ?_
       refine WP.seq ?_
       refine WP.region rfl ?_
       refine WS.val rfl (LK.move rfl) ?_
       refine WS.val rfl (LK.neq rfl rfl) ?_
       refine WS.nil ?_
       refine WP.sub (gs := [(71, _), (14, _), (12, _), (2, _), (7, _), (8, _), (10, _), (11, _)]) ?_ ⟨rfl, rfl, rfl, rfl, rfl, rfl, rfl, rfl, trivial⟩
       refine WP.cond rfl (fun h71 => ?_) (fun h71 => ?_)
       · exfalso; simp at h71; done
       refine WP.skip ?_
       refine WP.seq ?_
       refine WP.seq ?_
       refine WP.region rfl ?_
       refine WS.val rfl (LK.move rfl) ?_
       refine WS.val rfl (LK.move rfl) ?_
       refine WS.val rfl (LK.move rfl) ?_
       refine WS.val rfl (LK.add_to rfl rfl hBk) ?_
       refine WS.val rfl (LK.lss rfl rfl) ?_
       refine WS.nil ?_
       refine WP.sub (gs := [(76, _), (12, _), (2, _), (7, _), (8, _), (10, _), (11, _)]) ?_ ⟨rfl, rfl, rfl, rfl, rfl, rfl, rfl, trivial⟩
       refine WP.cond rfl (fun h76 => ?_) (fun h76 => ?_)
       · skip
         refine WP.seq ?_
         refine WP.region rfl ?_
         (refine WS.call rfl (LK.call rfl) (CallP.mono (worksK _) ?_); rintro _ Hc ⟨rfl, rfl⟩)
         refine WS.val rfl (LK.assign rfl) ?_
         refine WS.nil ?_
         refine WP.sub (gs := [(6, _), (12, _), (2, _), (7, _), (8, _), (10, _), (11, _)]) ?_ ⟨rfl, rfl, rfl, rfl, rfl, rfl, rfl, trivial⟩
         exact WP.ret rfl (Fin.ret' rfl rfl rfl)
       refine WP.skip ?_
       refine WP.seq ?_
       have hBi := Int.ofNat_le.1 (Int.not_lt.1 (of_decide_eq_false h76))
       have hO0 : OB (Hc.new (.cells [] 5 true false)) (.slice (some (Hc.next, 0)) 0 (.ex 0)) [] := Own.full (n := 0) (sz := 1) rfl
       obtain ⟨v6, H6, hap, hO6, hE6, hv6n⟩ := OB.append hO0 (S.b.newo (.cells [] 5 true false)) (by simp; omega)
       rw [List.nil_append] at hO6
       refine WP.region rfl ?_
       refine WS.val rfl (LK.buildSlice (cs := []) rfl (by decide) rfl) ?_
       refine WS.val rfl (LK.move rfl) ?_
       refine WS.val rfl (LK.builtin rfl hap) ?_
       refine WS.val rfl (LK.assign rfl) ?_
       refine WS.nil ?_
       refine WP.sub (gs := [(16, _), (12, _), (2, _), (8, _), (10, _), (11, _)]) ?_ ⟨rfl, rfl, rfl, rfl, rfl, rfl, trivial⟩
       refine WP.seq ?_
       obtain ⟨bi, bc, bo, hbi, hv6, hbg, hput⟩ := hO6.at hb0
       have hbk : (bytesL (jof cl).b)[0 + i * 1]? = some (.int .u8 (((jof cl).b.getD i 0).toNat : Int)) := by rw [Nat.zero_add, Nat.mul_one]; exact bytesL_get hil
       have hbl : 0 + i * 1 < (bytesL (jof cl).b).length := by rw [bytesL_length]; omega
       have hgd : (jof cl).b.getD i 0 = (jof cl).b[i] := by simp [List.getD, hil]
       rw [hgd] at hbk
       have hix6 : natOf (.int .i64 (i : Int)) = some i := natOf_cast
       have hxor : bitI .xor .u8 ((jof cl).b[i].toNat : Int) (b.toNat : Int) = (((jof cl).b[i] ^^^ b).toNat : Int) := by
         rw [bit_xor (k := .u8) rfl (UInt8.toNat_lt _) (UInt8.toNat_lt _), UInt8.toNat_xor]
       have hbne : (jof cl).b[i] ^^^ b ≠ (jof cl).b[i] := by
         intro h
         have h1 := congrArg UInt8.toNat h
         rw [UInt8.toNat_xor] at h1
         have h2 : b.toNat = 0 := xor_cancel' (c := (jof cl).b[i].toNat) (by rw [h1, Nat.xor_zero])
         rw [h2] at hbz
         simp at hbz
       refine WP.region rfl ?_
       refine WS.val rfl (LK.move rfl) ?_
       refine WS.val rfl (LK.move rfl) ?_
       refine WS.val rfl (LK.move rfl) ?_
       refine WS.val rfl (LK.move rfl) ?_
       refine WS.val rfl (LK.indexAddr (congrArg some hv6) rfl hix6 hil) ?_
       refine WS.val rfl (LK.load rfl hbg hbk) ?_
       refine WS.val rfl (LK.move rfl) ?_
       refine WS.val rfl (LK.xor_to rfl rfl hxor) ?_
       refine WS.val rfl (LK.indexAddr (congrArg some hv6) rfl hix6 hil) ?_
       refine WS.skip rfl (LK.store1 rfl rfl hbg rfl rfl hbl) ?_
       refine WS.nil ?_
       refine WP.sub (gs := [(16, _), (12, _), (8, _), (11, _)]) ?_ ⟨rfl, rfl, rfl, rfl, trivial⟩
       refine WP.seq ?_
       have hbv7 := hput i ((jof cl).b[i] ^^^ b)
       generalize hH7 : H6.put bi (.cells ((bytesL (jof cl).b).set (0 + i * 1) (.int .u8 (((jof cl).b[i] ^^^ b).toNat : Int))) 5 true bo) = H7 at *
       have hread := read H7 v6 _ hbv7 (by rw [List.length_set]; omega)
       rw [hflip _ hBi hbne, hBdef] at hread
       refine WP.region rfl ?_
       refine WS.val rfl (LK.move rfl) ?_
       (refine WS.call rfl (LK.call rfl) (CallP.mono (hread) ?_); rintro _ Hr ⟨hE7, v, ls, rfl, hOv, hcv, _⟩; (
           have hE67 : Ext H6 H7 (fun j => j = bi) := by rw [← hH7]; exact Ext.put1 _ _ _
           have hE06 : Ext Hc H6 none' := ((Ext.refl Hc none').new _).trans hE6 (fun j hj h => by simp [LV.bid?] at h; omega)
           have hbi6 : Hc.next ≤ bi := by
             rcases hv6n bi (by rw [hv6]; rfl) with h | h
             · simp [LV.bid?] at h; omega
             · simp at h; omega
           have hE07 : Ext Hc H7 none' := hE06.trans hE67 (fun j hj h => by omega)
           have S3 := S.ext2 (hE07.trans hE7 (fun i _ h => h))
           have hcm : CV Hr v ((kept cl).take _) ls := ⟨by rw [← hcl3]; exact hOv.sv, by rw [← hcl4]; exact hcv⟩
           obtain ⟨v2, hsl2, hcv2⟩ := CV.take S3.cv hWl
           have hcmds := cmds Hr v v2 _ ls _ hcm hcv2 (by rw [List.length_take]; omega) (fun c hc => small_bound (hsm c (kept_mem (List.mem_of_mem_take hc))))))
       refine WS.val rfl (LK.move rfl) ?_
       refine WS.val rfl (LK.extract rfl rfl) ?_
       refine WS.val rfl (LK.extract rfl rfl) ?_
       refine WS.val rfl (LK.assign rfl) ?_
       refine WS.val rfl (LK.assign rfl) ?_
       refine WS.nil ?_
       refine WP.sub (gs := [(18, _), (17, _), (12, _), (8, _), (11, _)]) ?_ ⟨rfl, rfl, rfl, rfl, rfl, trivial⟩
       refine WP.seq ?_
       refine WP.region rfl ?_
       refine WS.val rfl (LK.move rfl) ?_
       refine WS.val rfl (LK.move rfl) ?_
       refine WS.val rfl (LK.eql_to rfl rfl hne1) ?_
       refine WS.val rfl (LK.move rfl) ?_
       refine WS.val rfl (LK.move rfl) ?_
       all_goals (refine WS.val rfl (LK.move rfl) ?_)
       all_goals (refine WS.val rfl (LK.move rfl) ?_)
       all_goals (refine WS.val rfl (LK.slice rfl rfl rfl rfl hsl2) ?_)
       all_goals ((refine WS.call rfl (LK.call rfl) (CallP.mono (hcmds) ?_); rintro _ Hc ⟨hE8, rfl⟩))
       all_goals (refine WS.val rfl (LK.pick_t rfl rfl) ?_)
       all_goals (refine WS.val rfl (LK.move rfl) ?_)
       all_goals ((refine WS.call rfl (LK.call rfl) (CallP.mono (worksK _) ?_); rintro _ Hc ⟨rfl, rfl⟩))
       all_goals (refine WS.val rfl (LK.pick_t rfl rfl) ?_)
       all_goals (refine WS.val rfl (LK.assign rfl) ?_)
       all_goals
        refine WS.nil ?_
        refine WP.sub (gs := [(6, _)]) ?_ ⟨rfl, trivial⟩
        exact WP.ret rfl (Fin.ret' rfl rfl rfl)
     · skip
       have hlw : lastFin ((jof cl).rs.take w) ≤ (jof cl).b.length := lastFin_take_le hok (by omega)
       obtain ⟨size, k, hu⟩ := head_of hgood hlt
       obtain ⟨hk1, hk2, hk3⟩ := getU_spec hu
       rw [List.length_drop] at hk3
       have hcl3 : ((jof cl).rs.take w).length = ((kept cl).take w).length := by rw [← jof_cmds]; simp
       have hcl4 : ((jof cl).rs.take w).map (·.c) = (kept cl).take w := by rw [← jof_cmds, List.map_take]
       have hflip := fun (x : UInt8) h3 hx => recs_flip (x := x) hgood hlt (mem_take_get hlx) (Nat.lt_of_not_le hfn) hu h3 hil hx
       have hrl' : lastFin ((jof cl).rs.take w) = lastFin ((jof cl).rs.take w) := rfl
       generalize hBdef : lastFin ((jof cl).rs.take w) = B at *
       have hd56 : decide ((0 : Int) < (w : Int)) = true := decide_eq_true (by omega)
       obtain ⟨i2, o2, c2, cs2, e2, w2, p2, hv2, _, g2, k2⟩ := hEv.at1 (k := w - 1) (by omega)
       have hB1 : (ends cl)[w - 1]? = some (.int .i64 (B : Int)) := by
         obtain ⟨y, rfl⟩ : ∃ y, w = y + 1 := ⟨w - 1, by omega⟩
         rw [lastFin_take (by omega)] at hBdef
         rw [Nat.add_sub_cancel, ends_get (by omega), hBdef]
       rw [hB1] at k2
       have hwk2 : IntKind.i64.wrap ((w : Int) - 1) = ((w - 1 : Nat) : Int) := by rw [wrap_i64 (by omega) (by omega)]; omega
       have hix2 : natOf (.int .i64 ((w - 1 : Nat) : Int)) = some (w - 1) := natOf_cast
       have hxk2 : w - 1 < (kept cl).length := by omega
       obtain ⟨v', hsl, hb', hv'⟩ := BV.slice (v := vb) (bs := (jof cl).b) S.b (t := 22) (lo := some (.int .i64 ((B : Nat) : Int))) (hi := none) (l := B) (r := (jof cl).b.length) (natOf_cast (k := .i64)) rfl hlw (Nat.le_refl _)
       rw [List.take_of_length_le (by rw [List.length_drop]; omega)] at hb'
       have hget := getUint _ v' _ hb'
       rw [hu] at hget
       have hBk : IntKind.i64.wrap ((B : Int) + (k : Int)) = ((B + k : Nat) : Int) := by rw [wrap_i64 (by omega) (by omega)]; rfl
       have hWl : w ≤ (kept cl).length := by omega
       have hne1 : ((B : Int) == (B : Int)) = true := by simp
       refine WP.seq ?_
       refine WP.seq ?_
       refine WP.region rfl ?_
       refine WS.val rfl (LK.move rfl) ?_
       refine WS.val rfl (LK.move rfl) ?_
       refine WS.val rfl (LK.indexAddr (congrArg some hv1) rfl hix hxk) ?_
       refine WS.val rfl (LK.load rfl g1 k1) ?_
       refine WS.val rfl (LK.move rfl) ?_
       refine WS.val rfl (LK.leq_to rfl rfl hd52) ?_
       refine WS.nil ?_
       refine WP.cond rfl (fun h52 => ?_) (fun h52 => ?_)
       · exfalso; simp at h52; done
       refine WP.exit rfl ?_
       refine WP.seq ?_
       refine WP.region rfl ?_
       refine WS.val rfl (LK.assign rfl) ?_
       refine WS.nil ?_
       refine WP.sub (gs := [(12, _), (2, _), (7, _), (8, _), (9, _), (10, _), (11, _)]) ?_ ⟨rfl, rfl, rfl, rfl, rfl, rfl, rfl, trivial⟩
       refine WP.seq ?_
       refine WP.seq ?_
       refine WP.region rfl ?_
       refine WS.val rfl (LK.move rfl) ?_
       refine WS.val rfl (LK.gtr_to rfl rfl hd56) ?_
       refine WS.nil ?_
       refine WP.sub (gs := [(56, _), (12, _), (2, _), (7, _), (8, _), (9, _), (10, _), (11, _)]) ?_ ⟨rfl, rfl, rfl, rfl, rfl, rfl, rfl, rfl, trivial⟩
       refine WP.cond rfl (fun h56 => ?_) (fun h56 => ?_)
       rotate_left
       · exfalso; simp at h56; done
       refine WP.region rfl ?_
       refine WS.val rfl (LK.move rfl) ?_
       refine WS.val rfl (LK.move rfl) ?_
       refine WS.val rfl (LK.sub_to rfl rfl hwk2) ?_
       refine WS.val rfl (LK.indexAddr (congrArg some hv2) rfl hix2 hxk2) ?_
       refine WS.val rfl (LK.load rfl g2 k2) ?_
       refine WS.val rfl (LK.assign rfl) ?_
       refine WS.nil ?_
       refine WP.sub (gs := [(12, _), (2, _), (7, _), (8, _), (10, _), (11, _)]) ?_ ⟨rfl, rfl, rfl, rfl, rfl, rfl, trivial⟩
       refine WP.seq ?_
       refine WP.region rfl ?_
       refine WS.val rfl (LK.move rfl) ?_
       refine WS.val rfl (LK.move rfl) ?_
       refine WS.val rfl (LK.slice rfl rfl rfl rfl hsl) ?_
       (refine WS.call rfl (LK.call rfl) (CallP.mono (hget) ?_); rintro _ Hc ⟨rfl, rfl⟩)
       refine WS.val rfl (LK.move rfl) ?_
       refine WS.val rfl (LK.extract rfl rfl) ?_
       refine WS.val rfl (LK.extract rfl rfl) ?_
       refine WS.val rfl (LK.extract rfl rfl) ?_
       refine WS.val rfl (LK.assign rfl) ?_
       refine WS.val rfl (LK.assign rfl) ?_
       refine WS.val rfl (LK.assign rfl) ?_
       refine WS.nil ?_
       refine WP.sub (gs := [(15, _), (14, _), (12, _), (2, _), (7, _), (8, _), (10, _), (11, _)]) ?_ ⟨rfl, rfl, rfl, rfl, rfl, rfl, rfl, rfl, trivial⟩
       refine WP.seq ?_
       refine WP.seq ?_
       refine WP.region rfl ?_
       refine WS.val rfl (LK.move rfl) ?_
       refine WS.val rfl (LK.neq rfl rfl) ?_
       refine WS.nil ?_
       refine WP.sub (gs := [(71, _), (14, _), (12, _), (2, _), (7, _), (8, _), (10, _), (11, _)]) ?_ ⟨rfl, rfl, rfl, rfl, rfl, rfl, rfl, rfl, trivial⟩
       refine WP.cond rfl (fun h71 => ?_) (fun h71 => ?_)
       · exfalso; simp at h71; done
       refine WP.skip ?_
       refine WP.seq ?_
       refine WP.seq ?_
       refine WP.region rfl ?_
       refine WS.val rfl (LK.move rfl) ?_
       refine WS.val rfl (LK.move rfl) ?_
       refine WS.val rfl (LK.move rfl) ?_
       refine WS.val rfl (LK.add_to rfl rfl hBk) ?_
       refine WS.val rfl (LK.lss rfl rfl) ?_
       refine WS.nil ?_
       refine WP.sub (gs := [(76, _), (12, _), (2, _), (7, _), (8, _), (10, _), (11, _)]) ?_ ⟨rfl, rfl, rfl, rfl, rfl, rfl, rfl, trivial⟩
       refine WP.cond rfl (fun h76 => ?_) (fun h76 => ?_)
       · skip
         refine WP.seq ?_
         refine WP.region rfl ?_
         (refine WS.call rfl (LK.call rfl) (CallP.mono (worksK _) ?_); rintro _ Hc ⟨rfl, rfl⟩)
         refine WS.val rfl (LK.assign rfl) ?_
         refine WS.nil ?_
         refine WP.sub (gs := [(6, _), (12, _), (2, _), (7, _), (8, _), (10, _), (11, _)]) ?_ ⟨rfl, rfl, rfl, rfl, rfl, rfl, rfl, trivial⟩
         exact WP.ret rfl (Fin.ret' rfl rfl rfl)
       refine WP.skip ?_
       refine WP.seq ?_
       have hBi := Int.ofNat_le.1 (Int.not_lt.1 (of_decide_eq_false h76))
       have hO0 : OB (Hc.new (.cells [] 5 true false)) (.slice (some (Hc.next, 0)) 0 (.ex 0)) [] := Own.full (n := 0) (sz := 1) rfl
       obtain ⟨v6, H6, hap, hO6, hE6, hv6n⟩ := OB.append hO0 (S.b.newo (.cells [] 5 true false)) (by simp; omega)
       rw [List.nil_append] at hO6
       refine WP.region rfl ?_
       refine WS.val rfl (LK.buildSlice (cs := []) rfl (by decide) rfl) ?_
       refine WS.val rfl (LK.move rfl) ?_
       refine WS.val rfl (LK.builtin rfl hap) ?_
       refine WS.val rfl (LK.assign rfl) ?_
       refine WS.nil ?_
       refine WP.sub (gs := [(16, _), (12, _), (2, _), (8, _), (10, _), (11, _)]) ?_ ⟨rfl, rfl, rfl, rfl, rfl, rfl, trivial⟩
       refine WP.seq ?_
       obtain ⟨bi, bc, bo, hbi, hv6, hbg, hput⟩ := hO6.at hb0
       have hbk : (bytesL (jof cl).b)[0 + i * 1]? = some (.int .u8 (((jof cl).b.getD i 0).toNat : Int)) := by rw [Nat.zero_add, Nat.mul_one]; exact bytesL_get hil
       have hbl : 0 + i * 1 < (bytesL (jof cl).b).length := by rw [bytesL_length]; omega
       have hgd : (jof cl).b.getD i 0 = (jof cl).b[i] := by simp [List.getD, hil]
       rw [hgd] at hbk
       have hix6 : natOf (.int .i64 (i : Int)) = some i := natOf_cast
       have hxor : bitI .xor .u8 ((jof cl).b[i].toNat : Int) (b.toNat : Int) = (((jof cl).b[i] ^^^ b).toNat : Int) := by
         rw [bit_xor (k := .u8) rfl (UInt8.toNat_lt _) (UInt8.toNat_lt _), UInt8.toNat_xor]
       have hbne : (jof cl).b[i] ^^^ b ≠ (jof cl).b[i] := by
         intro h
         have h1 := congrArg UInt8.toNat h
         rw [UInt8.toNat_xor] at h1
         have h2 : b.toNat = 0 := xor_cancel' (c := (jof cl).b[i].toNat) (by rw [h1, Nat.xor_zero])
         rw [h2] at hbz
         simp at hbz
       refine WP.region rfl ?_
       refine WS.val rfl (LK.move rfl) ?_
       refine WS.val rfl (LK.move rfl) ?_
       refine WS.val rfl (LK.move rfl) ?_
       refine WS.val rfl (LK.move rfl) ?_
       refine WS.val rfl (LK.indexAddr (congrArg some hv6) rfl hix6 hil) ?_
       refine WS.val rfl (LK.load rfl hbg hbk) ?_
       refine WS.val rfl (LK.move rfl) ?_
       refine WS.val rfl (LK.xor_to rfl rfl hxor) ?_
       refine WS.val rfl (LK.indexAddr (congrArg some hv6) rfl hix6 hil) ?_
       refine WS.skip rfl (LK.store1 rfl rfl hbg rfl rfl hbl) ?_
       refine WS.nil ?_
       refine WP.sub (gs := [(16, _), (12, _), (8, _), (11, _)]) ?_ ⟨rfl, rfl, rfl, rfl, trivial⟩
       refine WP.seq ?_
       have hbv7 := hput i ((jof cl).b[i] ^^^ b)
       generalize hH7 : H6.put bi (.cells ((bytesL (jof cl).b).set (0 + i * 1) (.int .u8 (((jof cl).b[i] ^^^ b).toNat : Int))) 5 true bo) = H7 at *
       have hread := read H7 v6 _ hbv7 (by rw [List.length_set]; omega)
       rw [hflip _ hBi hbne, hBdef] at hread
       refine WP.region rfl ?_
       refine WS.val rfl (LK.move rfl) ?_
       (refine WS.call rfl (LK.call rfl) (CallP.mono (hread) ?_); rintro _ Hr ⟨hE7, v, ls, rfl, hOv, hcv, _⟩; (
           have hE67 : Ext H6 H7 (fun j => j = bi) := by rw [← hH7]; exact Ext.put1 _ _ _
           have hE06 : Ext Hc H6 none' := ((Ext.refl Hc none').new _).trans hE6 (fun j hj h => by simp [LV.bid?] at h; omega)
           have hbi6 : Hc.next ≤ bi := by
             rcases hv6n bi (by rw [hv6]; rfl) with h | h
             · simp [LV.bid?] at h; omega
             · simp at h; omega
           have hE07 : Ext Hc H7 none' := hE06.trans hE67 (fun j hj h => by omega)
           have S3 := S.ext2 (hE07.trans hE7 (fun i _ h => h))
           have hcm : CV Hr v ((kept cl).take _) ls := ⟨by rw [← hcl3]; exact hOv.sv, by rw [← hcl4]; exact hcv⟩
           obtain ⟨v2, hsl2, hcv2⟩ := CV.take S3.cv hWl
           have hcmds := cmds Hr v v2 _ ls _ hcm hcv2 (by rw [List.length_take]; omega) (fun c hc => small_bound (hsm c (kept_mem (List.mem_of_mem_take hc))))))
       refine WS.val rfl (LK.move rfl) ?_
       refine WS.val rfl (LK.extract rfl rfl) ?_
       refine WS.val rfl (LK.extract rfl rfl) ?_
       refine WS.val rfl (LK.assign rfl) ?_
       refine WS.val rfl (LK.assign rfl) ?_
       refine WS.nil ?_
       refine WP.sub (gs := [(18, _), (17, _), (12, _), (8, _), (11, _)]) ?_ ⟨rfl, rfl, rfl, rfl, rfl, trivial⟩
       refine WP.seq ?_
       refine WP.region rfl ?_
       refine WS.val rfl (LK.move rfl) ?_
       refine WS.val rfl (LK.move rfl) ?_
       refine WS.val rfl (LK.eql_to rfl rfl hne1) ?_
       refine WS.val rfl (LK.move rfl) ?_
       refine WS.val rfl (LK.move rfl) ?_
       all_goals (refine WS.val rfl (LK.move rfl) ?_)
       all_goals (refine WS.val rfl (LK.move rfl) ?_)
       all_goals (refine WS.val rfl (LK.slice rfl rfl rfl rfl hsl2) ?_)
       all_goals ((refine WS.call rfl (LK.call rfl) (CallP.mono (hcmds) ?_); rintro _ Hc ⟨hE8, rfl⟩))
       all_goals (refine WS.val rfl (LK.pick_t rfl rfl) ?_)
       all_goals (refine WS.val rfl (LK.move rfl) ?_)
       all_goals ((refine WS.call rfl (LK.call rfl) (CallP.mono (worksK _) ?_); rintro _ Hc ⟨rfl, rfl⟩))
       all_goals (refine WS.val rfl (LK.pick_t rfl rfl) ?_)
       all_goals (refine WS.val rfl (LK.assign rfl) ?_)
       all_goals
        refine WS.nil ?_
        refine WP.sub (gs := [(6, _)]) ?_ ⟨rfl, trivial⟩
        exact WP.ret rfl (Fin.ret' rfl rfl rfl)
end Go.Proofs.Ythakgknamfopcaa
