/-
  Layer nfa: a pattern's states, and all patterns'.
-/
import Derived.Test.YtenpjkinpecnfaaNfa
import Derived.KernelRfl
namespace Go.Proofs.Ytenpjkinpecnfaa
open Go Go.Am
set_option maxRecDepth 100000
set_option maxHeartbeats 4000000
set_option linter.unusedSimpArgs false
set_option linter.unusedVariables false

/-- A piece is of states that there are. -/
def Prt.In (p : Prt) (ss : List St) : Prop := p.from_ < ss.length ∧ p.to_ < ss.length
/-- An item makes a piece of the last ones. -/
inductive IStep : Item → List St → List Prt → List St → List Prt → Prt → Prop
  | cls {ss : List St} {ps : List Prt} {l : List Rng} (hne : l ≠ []) (hok : ∀ r ∈ l, RngOk r) : IStep ⟨1, l⟩ ss ps (clsS ss.length (ss.length + 1) (ss ++ [st0, st0]) l) ps ⟨ss.length, ss.length + 1⟩
  | join {ss : List St} {ps : List Prt} {p q : Prt} (hp : p.In ss) (hq : q.In ss) : IStep ⟨2, []⟩ ss (ps ++ [p, q]) (joinS ss p q) ps ⟨p.from_, q.to_⟩
  | alt {ss : List St} {ps : List Prt} {p q : Prt} (hp : p.In ss) (hq : q.In ss) : IStep ⟨3, []⟩ ss (ps ++ [p, q]) (altS ss p q) ps ⟨ss.length, ss.length + 1⟩
  | rep {ss : List St} {ps : List Prt} {p : Prt} {op : Int} (hop : op = 4 ∨ op = 5 ∨ op = 6) (hp : p.In ss) : IStep ⟨op, []⟩ ss (ps ++ [p]) (repS op ss p) ps ⟨ss.length, ss.length + 1⟩

theorem item_uf {h : Heap} {k : Nat} {K : Nat → Prop} {ss ss' : List St} {ps0 ps : List Prt} {x : Item} {r : Prt} (B : Nb h k K ss ps0) (st : IStep x ss ps0 ss' ps r) {v : AV} (sv : Lst h v x.l) (hl : ps0.length ≤ 10000) (hw : wt ss + 10 + 2 * x.l.length ≤ 1000000) :
    UF T F 74 [.ptr (some (k, 0)), .agg [.int .i64 x.op, v]] h fun v' h' => Upd (¬ K ·) h h' ∧ Nb h' k K ss' ps ∧ v' = .tup [.agg [.int .i64 r.from_, .int .i64 r.to_], .bool true] := by
  obtain ⟨va, vn, vc, vz, rfl, hn⟩ := sv.form
  have hK : ∀ b, K b → b < h.nxt := fun b hb => by obtain ⟨_, _, _, _, _, _, N⟩ := B; exact (N b hb).1
  refine UF.gen fun Q hQ => UF.of (F_74) (c := _) rfl ?_
  unfold Try.f74
  simp only [List.length, Nat.reduceSub, Nat.reduceAdd, List.replicate, List.cons_append, List.nil_append]
  simp (disch := first | ((try simp only [heapN]) <;> omega) | fail) only [go_sem, seval]
  have e1 : Ext h ((h.add (.cells [.int .i64 x.op, .slc va vn vc vz] true)).add (.cells [.int .i64 0, .int .i64 0] true)) := (Ext.add _ _).trans (Ext.add _ _)
  have B1 : Nb ((h.add (.cells [.int .i64 x.op, .slc va vn vc vz] true)).add (.cells [.int .i64 0, .int .i64 0] true)) k (fun b => K b ∨ b = h.nxt ∨ b = h.nxt + 1) ss ps0 := B.upd (e1.upd fun _ => False) (fun _ f _ => f.elim) fun b hb => by
    rcases hb with hb | rfl | rfl
    · exact ⟨by have := hK b hb; simp; omega, .inl hb⟩
    · exact ⟨by simp; omega, .inr (Nat.le_refl _)⟩
    · exact ⟨by simp, .inr (by omega)⟩
  have fin : ∀ h', Upd (fun b => ¬ (K b ∨ b = h.nxt ∨ b = h.nxt + 1)) ((h.add (.cells [.int .i64 x.op, .slc va vn vc vz] true)).add (.cells [.int .i64 0, .int .i64 0] true)) h' → Nb h' k (fun b => K b ∨ b = h.nxt ∨ b = h.nxt + 1) ss' ps → h'.get (h.nxt + 1) = some (.cells [.int .i64 0, .int .i64 0] true) ∧ Q (.tup [.agg [.int .i64 r.from_, .int .i64 r.to_], .bool true]) (h'.put (h.nxt + 1) (.cells [.int .i64 r.from_, .int .i64 r.to_] true)) := by
    intro h' u1 B'
    have n' := u1.nxt
    simp only [Heap.add_nxt] at n'
    have g4 : h'.get (h.nxt + 1) = some (.cells [.int .i64 0, .int .i64 0] true) := (u1.get _ (by simp) (by simp)).trans get_add_self
    have uP : Upd (· = h.nxt + 1) h' (h'.put (h.nxt + 1) (.cells [.int .i64 r.from_, .int .i64 r.to_] true)) := Upd.put _ rfl fun c e => by rw [g4] at e; simp at e
    refine ⟨g4, hQ _ _ ⟨((e1.upd _).trans (u1.weak fun b _ h1 h2 => h1 (.inl h2))).trans (uP.weak fun b _ e hKb => by have := hK b hKb; omega), B'.upd uP (fun b e _ => .inr (.inr e)) fun b hb => ⟨?_, .inl (.inl hb)⟩, rfl⟩⟩
    have := hK b hb
    simp; omega
  cases st with
  | cls hne hok =>
    simp (disch := first | ((try simp only [heapN]) <;> omega) | fail) only [go_sem, seval]
    refine callV_ofU F_84 rfl ((nclass_uf B1 (sv.ext e1) hne hok (by simp only at hw ⊢; omega)).mono ?_)
    rintro v3 h3 ⟨u3, B3, rfl⟩
    obtain ⟨g4, q⟩ := fin h3 u3 B3
    simp (disch := first | ((try simp only [heapN]) <;> omega) | fail) only [go_sem, seval, g4]
    exact q
  | join hp hq =>
    simp (disch := first | ((try simp only [heapN]) <;> omega) | fail) only [go_sem, seval]
    refine callV_ofU F_85 rfl ((two_uf B1 (.inl rfl) hp hq (by simp at hl; omega) (by omega)).mono ?_)
    rintro v3 h3 ⟨u3, ss3, r3, e3, B3, rfl⟩
    rw [if_pos rfl] at e3
    simp only [Prod.mk.injEq] at e3
    obtain ⟨rfl, rfl⟩ := e3
    obtain ⟨g4, q⟩ := fin h3 u3 B3
    simp (disch := first | ((try simp only [heapN]) <;> omega) | fail) only [go_sem, seval, g4]
    exact q
  | alt hp hq =>
    simp (disch := first | ((try simp only [heapN]) <;> omega) | fail) only [go_sem, seval]
    refine callV_ofU F_85 rfl ((two_uf B1 (.inr rfl) hp hq (by simp at hl; omega) (by omega)).mono ?_)
    rintro v3 h3 ⟨u3, ss3, r3, e3, B3, rfl⟩
    rw [if_neg (by decide)] at e3
    simp only [Prod.mk.injEq] at e3
    obtain ⟨rfl, rfl⟩ := e3
    obtain ⟨g4, q⟩ := fin h3 u3 B3
    simp (disch := first | ((try simp only [heapN]) <;> omega) | fail) only [go_sem, seval, g4]
    exact q
  | rep hop hp =>
    rcases hop with rfl | rfl | rfl
    all_goals
      simp (disch := first | ((try simp only [heapN]) <;> omega) | fail) only [go_sem, seval]
      refine callV_ofU F_86 rfl ((many_uf B1 (by decide) hp (by simp at hl; omega) (by omega)).mono ?_)
      rintro v3 h3 ⟨u3, B3, rfl⟩
      obtain ⟨g4, q⟩ := fin h3 u3 B3
      simp (disch := first | ((try simp only [heapN]) <;> omega) | fail) only [go_sem, seval, g4]
      exact q

/-- Items, one by one. -/
inductive Runs : List Item → List St → List Prt → List St → List Prt → Prop
  | nil {ss : List St} {ps : List Prt} : Runs [] ss ps ss ps
  | cons {x : Item} {xs : List Item} {ss ss1 ss2 : List St} {ps0 ps ps2 : List Prt} {r : Prt} (h : IStep x ss ps0 ss1 ps r) (t : Runs xs ss1 (ps ++ [r]) ss2 ps2) : Runs (x :: xs) ss ps0 ss2 ps2
def cost (l : List Item) : Nat := (l.map fun x => 10 + 2 * x.l.length).sum
theorem cost_cons (x : Item) (l : List Item) : cost (x :: l) = 10 + 2 * x.l.length + cost l := rfl
theorem rep_wt (op : Int) (ss : List St) (p : Prt) : wt (repS op ss p) ≤ wt ss + 6 := by
  have h1 := wt_free (ss ++ [st0, st0]) ss.length [p.from_]
  rw [wt_app] at h1
  have h2 : wt [st0, st0] = 2 := rfl
  have h3 := wt_free (freeS (ss ++ [st0, st0]) ss.length [p.from_]) p.to_ [ss.length + 1]
  simp only [List.length_cons, List.length_nil] at h1 h3
  unfold repS
  simp only
  have h4 := wt_free (freeS (freeS (ss ++ [st0, st0]) ss.length [p.from_]) p.to_ [ss.length + 1]) ss.length [ss.length + 1]
  simp only [List.length_cons, List.length_nil] at h4
  by_cases h5 : op = 5 <;> by_cases h6 : op = 6
  · rw [if_pos h5, if_pos h6]; omega
  · rw [if_pos h5, if_neg h6]
    have := wt_free (freeS (freeS (ss ++ [st0, st0]) ss.length [p.from_]) p.to_ [ss.length + 1]) p.to_ [p.from_]
    simp only [List.length_cons, List.length_nil] at this; omega
  · rw [if_neg h5, if_pos h6]; omega
  · rw [if_neg h5, if_neg h6]
    have := wt_free (freeS (freeS (freeS (ss ++ [st0, st0]) ss.length [p.from_]) p.to_ [ss.length + 1]) ss.length [ss.length + 1]) p.to_ [p.from_]
    simp only [List.length_cons, List.length_nil] at this; omega
theorem alt_wt (ss : List St) (p q : Prt) : wt (altS ss p q) ≤ wt ss + 6 := by
  have h1 := wt_free (ss ++ [st0, st0]) ss.length [p.from_, q.from_]
  rw [wt_app] at h1
  have h2 : wt [st0, st0] = 2 := rfl
  have h3 := wt_free (freeS (ss ++ [st0, st0]) ss.length [p.from_, q.from_]) p.to_ [ss.length + 1]
  have h4 := wt_free (freeS (freeS (ss ++ [st0, st0]) ss.length [p.from_, q.from_]) p.to_ [ss.length + 1]) q.to_ [ss.length + 1]
  simp only [List.length_cons, List.length_nil] at h1 h3 h4
  unfold altS; omega
theorem IStep.wt {x : Item} {ss ss1 : List St} {ps0 ps : List Prt} {r : Prt} (h : IStep x ss ps0 ss1 ps r) : wt ss1 ≤ Go.Proofs.Ytenpjkinpecnfaa.wt ss + (10 + 2 * x.l.length) ∧ ps.length ≤ ps0.length := by
  cases h with
  | cls hne hok =>
    rename_i l
    have := clsS_wt ss.length (ss.length + 1) l (ss ++ [st0, st0])
    rw [wt_app] at this
    have h2 : Go.Proofs.Ytenpjkinpecnfaa.wt [st0, st0] = 2 := rfl
    exact ⟨by simp only; omega, Nat.le_refl _⟩
  | join hp hq =>
    rename_i p q
    have := wt_free ss p.to_ [q.from_]
    simp only [List.length_cons, List.length_nil] at this
    exact ⟨by unfold joinS; simp only; omega, by simp⟩
  | alt hp hq => rename_i p q; have := alt_wt ss p q; exact ⟨by simp only; omega, by simp⟩
  | rep hop hp => rename_i p op; have := rep_wt op ss p; exact ⟨by simp only; omega, by simp⟩
theorem Runs.wt {l : List Item} {ss ss1 : List St} {ps0 ps : List Prt} (h : Runs l ss ps0 ss1 ps) : wt ss1 ≤ Go.Proofs.Ytenpjkinpecnfaa.wt ss + cost l := by
  induction h with
  | nil => simp [cost]
  | cons h t ih => have := h.wt.1; rw [cost_cons]; omega

theorem pattern_uf {h : Heap} {k : Nat} {K : Nat → Prop} {ss ss' : List St} {ps0 : List Prt} {r : Prt} (B : Nb h k K ss ps0) {l : List Item} {v : AV} (sv : Lst h v l) (run : Runs l ss [] ss' [r]) (hl : l.length ≤ 5000) (hw : wt ss + cost l ≤ 900000) :
    UF T F 53 [.ptr (some (k, 0)), v] h fun v' h' => Upd (¬ K ·) h h' ∧ Nb h' k K ss' [r] ∧ v' = .tup [.agg [.int .i64 r.from_, .int .i64 r.to_], .bool true] := by
  obtain ⟨va, vn, vc, vz, rfl, hn⟩ := sv.form
  have hK : ∀ b, K b → b < h.nxt := fun b hb => by obtain ⟨_, _, _, _, _, _, N⟩ := B; exact (N b hb).1
  have B0 := B
  obtain ⟨hk, lv, pv, vs, g, V, N⟩ := B0
  refine UF.gen fun Q hQ => UF.of (F_53) (c := _) rfl ?_
  unfold Try.f53
  simp only [List.length, Nat.reduceSub, Nat.reduceAdd, List.replicate, List.cons_append, List.nil_append]
  simp (disch := first | ((try simp only [heapN]) <;> omega) | fail) only [go_sem, seval]
  have gk : (h.add (.cells [.int .i64 0, .int .i64 0] true)).get k = some (.cells [lv, pv] true) := (get_add_lt hk).trans g
  simp (disch := first | ((try simp only [heapN]) <;> omega) | fail) only [go_sem, seval, g]
  have e1 : Ext h (h.add (.cells [.int .i64 0, .int .i64 0] true)) := Ext.add _ _
  have uP : Upd (· = k) (h.add (.cells [.int .i64 0, .int .i64 0] true)) ((h.add (.cells [.int .i64 0, .int .i64 0] true)).put k (.cells [lv, .slc none 0 (some 0) 0] true)) := Upd.put _ rfl fun c e => by rw [gk] at e; simp at e
  have V1 : NbV (h.add (.cells [.int .i64 0, .int .i64 0] true)) k lv pv vs ss ps0 := V.upd (e1.upd fun _ => False) fun _ _ _ _ f => f
  have V2 := (V1.setP (Upd.refl _ _) (LFresh.nil (m := k + 1)) fun b e => by simp [AV.blk] at e).upd uP fun b hb _ _ e => by omega
  have B2 : Nb ((h.add (.cells [.int .i64 0, .int .i64 0] true)).put k (.cells [lv, .slc none 0 (some 0) 0] true)) k (fun b => K b ∨ b = h.nxt) ss [] := ⟨by simp; omega, _, _, _, get_put_self, V2, fun b hb => by
    rcases hb with hb | rfl
    · obtain ⟨m1, m2, m3, m4, m5⟩ := N b hb
      exact ⟨by simp; omega, m2, m3, by simp [AV.blk], m5⟩
    · refine ⟨by simp, by omega, fun e => ?_, by simp [AV.blk], fun v hv e => ?_⟩
      · have := (V.blk (.inl e)).2; omega
      · have := (V.blk (.inr (.inr ⟨v, hv, e⟩))).2; omega⟩
  have g4 : ((h.add (.cells [.int .i64 0, .int .i64 0] true)).put k (.cells [lv, .slc none 0 (some 0) 0] true)).get h.nxt = some (.cells [.int .i64 0, .int .i64 0] true) := (get_put_ne (by omega)).trans get_add_self
  have u02 : Upd (¬ K ·) h ((h.add (.cells [.int .i64 0, .int .i64 0] true)).put k (.cells [lv, .slc none 0 (some 0) 0] true)) := (e1.upd _).trans (uP.weak fun b _ e hKb => (N b hKb).2.1 e)
  generalize ((h.add (.cells [.int .i64 0, .int .i64 0] true)).put k (.cells [lv, .slc none 0 (some 0) 0] true)) = h2 at B2 g4 u02 ⊢
  refine LoopU_while (fun m st hh => ∃ j ssj psj, j ≤ l.length ∧ m = l.length - j ∧ Nb hh k (fun b => K b ∨ b = h.nxt) ssj psj ∧ Runs (l.drop j) ssj psj ss' [r] ∧ psj.length ≤ j ∧ wt ssj + cost (l.drop j) ≤ 900000 ∧ Upd (¬ K ·) h hh ∧ hh.get h.nxt = some (.cells [.int .i64 0, .int .i64 0] true) ∧
      Keep st 57 [(0, .ptr (some (k, 0))), (1, .slc va vn vc vz), (4, .ptr (some (h.nxt, 0))), (14, .slc va vn vc vz), (15, .int .i64 vn), (16, .int .i64 (j : Nat))]) l.length
    ⟨0, ss, [], by omega, by omega, B2, run, by simp, hw, u02, g4, rfl, by simp [Has]⟩ ?_
  rintro m st hh ⟨j, ssj, psj, hj, rfl, Bj, Rj, hpl, hwj, uj, gj4, hk9⟩
  rw [hk9.eq]
  obtain ⟨k0, k1, k4, k14, k15, k16, -⟩ := hk9.2
  simp only [slotsFrom, Nat.reduceAdd] at k0 k1 k4 k14 k15 k16 ⊢
  simp only [k0, k1, k4, k14, k15, k16]
  have slj := sv.pst uj.pst
  simp (disch := first | ((try simp only [heapN]) <;> omega) | fail) only [go_sem, seval]
  by_cases hlt : (j : Int) < vn
  · have hjl : j < l.length := by omega
    obtain ⟨rb, ro, rcs, rl, rfl, rfl, hrb, hrg, ⟨xv, rfl, sx⟩, hrr, hrt, hrc⟩ := slj.at_ (i := j) (x := l[j]) (List.getElem?_eq_getElem hjl) (k := 2) rfl
    rw [List.drop_eq_getElem_cons hjl] at Rj hwj
    rw [cost_cons] at hwj
    obtain ⟨xa, xn, xc, xz, rfl, hxn⟩ := sx.form
    simp (disch := first | ((try simp only [heapN]) <;> omega) | fail) only [go_sem, seval, hlt, hrg, Int.toNat_natCast, hrr, hrt]
    generalize hdr : l.drop (j + 1) = rest at Rj hwj
    cases Rj with
    | cons hst ht =>
    rename_i ss1 ps1 r1
    obtain ⟨h7, e7, x7, B7, g77, n7⟩ := nb_box Bj (.cells [.int .i64 0, .slc none 0 (some 0) 0] true) [.int .i64 l[j].op, .slc xa xn xc xz]
    rw [← e7]
    have hst1 := hst.wt
    refine callV_ofU F_74 rfl ((item_uf B7 hst (sx.ext x7) (by omega) (by omega)).mono ?_)
    rintro v9 h9 ⟨u9, B9, rfl⟩
    simp (disch := first | ((try simp only [heapN]) <;> omega) | fail) only [go_sem, seval]
    obtain ⟨h8, e8, x8, B8, g88, n8⟩ := nb_box (B9.less (K' := fun b => K b ∨ b = h.nxt) fun b hb => .inl hb) (.cells [.int .i64 0, .int .i64 0] true) [.int .i64 r1.from_, .int .i64 r1.to_]
    rw [← e8]
    obtain ⟨hk8, lv8, pv8, vs8, g8k, V8, N8⟩ := B8
    obtain ⟨pa, pn, pc, pz, rfl, hpn⟩ := V8.p.form
    refine DrawU_of' (fun b => b = h9.nxt) [0, 0, 2, 6, 14, 30, 0, 64, 254, 511, 1023, 2047, 4095] (by rfl) (by rfl) (fun b hb => by subst hb; exact n8) ?_
    simp (disch := first | ((try simp only [heapN]) <;> omega) | fail) only [go_sem, seval]
    refine LoadK_safeU (by rfl) ?_
    simp (disch := first | ((try simp only [heapN]) <;> omega) | fail) only [go_sem, seval, g8k]
    refine LoadK_ofU rfl rfl ?_
    simp (disch := first | ((try simp only [heapN]) <;> omega) | fail) only [go_sem, seval, g88]
    have e10 : Ext h8 ((h8.bump 13).put (h8.nxt + 7) (.cells [.int .i64 r1.from_, .int .i64 r1.to_] true)) := (Ext.bump _ _).put (by omega)
    refine fappend (m := k + 1) (xs := ps1) (ys := [r1]) T_105 rfl T_112 rfl (by decide) (by decide) (V8.p.ext e10) (LSlc.lit (b := h8.nxt + 7) (ls := [[.int .i64 r1.from_, .int .i64 r1.to_]]) (by simp) get_put_self rfl (Reps.one rfl) rfl rfl) (by simp; omega) (by simp [roomA]; omega) ?_
    intro v11 h11 L11 u11 b11
    have n11 := u11.nxt
    simp only [Heap.put_nxt, bump_nxt] at n11 b11
    have u8 : Upd (fun b => (AV.slc pa pn pc pz).blk = some b) h8 h11 := (e10.upd _).trans u11
    have g11k : h11.get k = _ := (u8.get k hk8 fun e => by have := (V8.blk (.inr (.inl e))).1; omega).trans g8k
    have g118 : h11.get h9.nxt = _ := (u8.get h9.nxt n8 fun e => (N8 h9.nxt (.inr rfl)).2.2.2.1 e).trans g88
    obtain ⟨wa, wn, wc, wz, rfl, hwn⟩ := L11.form
    simp (disch := first | ((try simp only [heapN]) <;> omega) | fail) only [go_sem, seval]
    refine ⟨fun b hb => by subst hb; exact g118.trans g88.symm, ?_⟩
    simp (disch := first | ((try simp only [heapN]) <;> omega) | fail) only [go_sem, seval, g11k]
    have hkne : k ≠ h9.nxt := fun e => (N8 h9.nxt (.inr rfl)).2.1 e.symm
    refine ⟨fun b hb => by subst hb; exact get_put_ne hkne, ?_⟩
    have uP2 : Upd (· = k) h11 (h11.put k (.cells [lv8, .slc wa wn wc wz] true)) := Upd.put _ rfl fun c e => by rw [g11k] at e; simp at e
    have V12 := (V8.setP u8 L11 fun b e => (b11 b e).imp id fun e => by omega).upd uP2 fun b hb _ _ e => by omega
    have B12 : Nb (h11.put k (.cells [lv8, .slc wa wn wc wz] true)) k (fun b => K b ∨ b = h.nxt) ss1 (ps1 ++ [r1]) := ⟨by simp; omega, _, _, _, get_put_self, V12, fun b hb => by
      obtain ⟨m1, m2, m3, m4, m5⟩ := N8 b (.inl hb)
      refine ⟨by simp; omega, m2, m3, fun e => ?_, m5⟩
      rcases b11 b e with e3 | e3
      · exact m4 e3
      · omega⟩
    have u12 : Upd (fun b => ¬ (K b ∨ b = h.nxt)) hh (h11.put k (.cells [lv8, .slc wa wn wc wz] true)) :=
      (((x7.upd _).trans (u9.weak fun b _ h1 h2 => h1 (.inl h2))).trans (x8.upd _)).trans ((u8.weak fun b _ e hKb => (N8 b (.inl hKb)).2.2.2.1 e).trans (uP2.weak fun b _ e hKb => (N8 b (.inl hKb)).2.1 e))
    have hnh := uj.nxt
    have hKh : h.nxt < hh.nxt := by obtain ⟨_, _, _, _, _, _, N⟩ := Bj; exact (N h.nxt (.inr rfl)).1
    have g4' := (u12.get h.nxt hKh (by simp)).trans gj4
    refine AgainK.mk (l.length - (j + 1)) (by simp only; omega) ⟨j + 1, ss1, ps1 ++ [r1], by omega, rfl, B12, by rw [hdr]; exact ht, by simp; omega, by rw [hdr]; omega, uj.trans (u12.weak fun b _ h1 h2 => h1 (.inl h2)), g4', rfl, by simp [Has]⟩
  · have hjn : j = vn := by omega
    subst hjn
    rw [hn, List.drop_length] at Rj
    cases Rj
    have Bj' := Bj
    obtain ⟨hkj, lvj, pvj, vsj, gjk, Vj, Nj⟩ := Bj'
    obtain ⟨pa, pn, pc, pz, rfl, hpn⟩ := Vj.p.form
    have hpn1 : (pn : Int) = 1 := by simp at hpn; omega
    obtain ⟨wb, wo, wcs, ww, wl, rfl, rfl, hwb, hwg, rfl, hw0, ht0, hc0⟩ := Vj.p.slc.at_ (i := 0) (x := r) rfl (k := 2) rfl
    simp only [Nat.zero_mul, Nat.add_zero] at ht0 hw0
    simp (disch := first | ((try simp only [heapN]) <;> omega) | fail) only [go_sem, seval, hlt, gjk, gj4, hpn1, hwg, ht0, hw0]
    have uP : Upd (· = h.nxt) hh (hh.put h.nxt (.cells [.int .i64 r.from_, .int .i64 r.to_] true)) := Upd.put _ rfl fun c e => by rw [gj4] at e; simp at e
    have njj := uj.nxt
    refine hQ _ _ ⟨uj.trans (uP.weak fun b _ e hKb => by have := hK b hKb; omega), Bj.upd uP (fun b e _ => .inr e) fun b hb => ⟨?_, .inl (.inl hb)⟩, rfl⟩
    have := hK b hb
    simp; omega

/-- All of it is frozen. -/
theorem frz_all : ∀ {xs : List St} {vs : List AV} {m : Nat} {h : Heap}, vs.length = xs.length → (∀ (i : Nat) (x : St) (v : AV), xs[i]? = some x → vs[i]? = some v → LFresh m h v x.free) →
    (∀ (i j : Nat) (v w : AV) (b : Nat), i ≠ j → vs[i]? = some v → vs[j]? = some w → v.blk = some b → w.blk ≠ some b) →
    ∃ h', Le h' h ∧ h'.nxt = h.nxt ∧ Reps h' xs (stCs xs vs) ∧ Upd (fun b => m ≤ b ∧ ∃ v ∈ vs, v.blk = some b) h h'
  | [], vs, m, h, _, _, _ => by
    refine ⟨h, Le.refl _, rfl, ?_, Upd.refl _ _⟩
    cases vs <;> exact .nil
  | x :: xs, [], m, h, hl, _, _ => by simp at hl
  | x :: xs, v :: vs, m, h, hl, hf, hd => by
    obtain ⟨h1, l1, n1, L1, u1⟩ := (hf 0 x v rfl rfl).frz
    obtain ⟨h2, l2, n2, R2, u2⟩ := frz_all (xs := xs) (vs := vs) (m := m) (h := h1) (by simpa using hl) (fun i y w hy hw => (hf (i + 1) y w (by simpa using hy) (by simpa using hw)).upd u1 fun b _ e e2 => hd 0 (i + 1) v w b (by omega) rfl (by simpa using hw) e2.2 e)
      fun i j v' w' b hij h1 h2 => hd (i + 1) (j + 1) v' w' b (by omega) (by simpa using h1) (by simpa using h2)
    refine ⟨h2, l2.trans l1, n2.trans n1, .cons ⟨v, rfl, L1.pst u2.pst⟩ R2, (u1.weak fun b _ e => ⟨e.1, v, by simp, e.2⟩).trans (u2.weak fun b _ e => ⟨e.1, ?_⟩)⟩
    obtain ⟨w, hw, e⟩ := e.2
    exact ⟨w, by simp [hw], e⟩
theorem NbV.frz {h : Heap} {k : Nat} {lv pv : AV} {vs : List AV} {ss : List St} {ps : List Prt} (V : NbV h k lv pv vs ss ps) : ∃ h', Le h' h ∧ h'.nxt = h.nxt ∧ Lst h' lv ss ∧ Upd (k < ·) h h' := by
  obtain ⟨h1, l1, n1, R1, u1⟩ := frz_all V.len V.f V.ff
  have F1 : Fresh (k + 1) h1 lv 5 (stCs ss vs) := fresh_keepU V.l u1 fun b _ e e2 => by
    obtain ⟨_, v, hv, e3⟩ := e2
    obtain ⟨i, hi⟩ := List.getElem?_of_mem hv
    exact (V.fl i v b hi e3).1 e
  have L1 : LFresh (k + 1) h1 lv ss := ⟨_, F1, R1⟩
  obtain ⟨h2, l2, n2, L2, u2⟩ := L1.frz
  exact ⟨h2, l2.trans l1, n2.trans n1, L2, (u1.weak fun b _ e => by omega).trans (u2.weak fun b _ e => by omega)⟩

/-- A state ends as a kind. -/
def endS (ss : List St) (i e : Nat) : List St := match ss[i]? with
  | some x => ss.set i { x with fin := e }
  | none => ss
theorem endS_len (ss : List St) (i e : Nat) : (endS ss i e).length = ss.length := by unfold endS; split <;> simp
theorem endS_wt (ss : List St) (i e : Nat) : wt (endS ss i e) = wt ss := by
  unfold endS
  split
  · rename_i x h; exact wt_set 0 _ h rfl
  · rfl
/-- All patterns' states. -/
inductive OfR : List (List Item) → Nat → List St → List St → Prop
  | nil {n : Nat} {ss : List St} : OfR [] n ss ss
  | cons {l : List Item} {ls : List (List Item)} {n : Nat} {ss ss1 ss2 : List St} {r : Prt} (run : Runs l ss [] ss1 [r]) (hr : r.In ss1) (h0 : 0 < ss1.length) (t : OfR ls (n + 1) (endS (freeS ss1 0 [r.from_]) r.to_ (n + 1)) ss2) : OfR (l :: ls) n ss ss2
def pcost (ls : List (List Item)) : Nat := (ls.map fun l => cost l + 1).sum

theorem Of_uf {h : Heap} {v : AV} {pats : List (List Item)} {ss' : List St} (sv : Lst h v pats) (run : OfR pats 0 [st0] ss') (hl : pats.length ≤ 5000) (hll : ∀ l ∈ pats, l.length ≤ 5000) (hw : pcost pats ≤ 800000) :
    UF T F 29 [v] h fun v' h' => Ext h h' ∧ Lst h' v' ss' := by
  obtain ⟨va, vn, vc, vz, rfl, hn⟩ := sv.form
  refine UF.genq fun Q hQ => UF.of (F_29) (c := _) rfl ?_
  unfold Try.f29
  simp only [List.length, Nat.reduceSub, Nat.reduceAdd, List.replicate, List.cons_append, List.nil_append]
  simp (disch := first | ((try simp only [heapN]) <;> omega) | fail) only [go_sem, seval]
  have e1 : Ext h (h.add (.cells [.slc none 0 (some 0) 0, .slc none 0 (some 0) 0] true)) := Ext.add _ _
  have B1 : Nb (h.add (.cells [.slc none 0 (some 0) 0, .slc none 0 (some 0) 0] true)) h.nxt (· < h.nxt) [] [] := ⟨by simp, _, _, [], get_add_self, ⟨rfl, Fresh.nil, LFresh.nil, fun i x v hx => by simp at hx, fun i j v w b _ hv => by simp at hv, fun i v b hv => by simp at hv, fun b e => by simp [AV.blk] at e⟩,
    fun b hb => ⟨by simp; omega, by omega, by simp [AV.blk], by simp [AV.blk], by simp⟩⟩
  refine callV_ofU F_52 rfl ((state_uf B1 (by simp)).mono ?_)
  rintro v2 h2 ⟨u2, B2, rfl⟩
  simp (disch := first | ((try simp only [heapN]) <;> omega) | fail) only [go_sem, seval]
  generalize hk0 : h.nxt = k at B1 B2 u2 ⊢
  have u02 : Upd (k ≤ ·) h h2 := (e1.upd _).trans (u2.weak fun b _ e => by omega)
  refine LoopU_while (fun m st hh => ∃ j ssj psj, j ≤ pats.length ∧ m = pats.length - j ∧ Nb hh k (· < k) ssj psj ∧ OfR (pats.drop j) j ssj ss' ∧ wt ssj + pcost (pats.drop j) ≤ 800010 ∧ Upd (k ≤ ·) h hh ∧
      Keep st 47 [(0, .slc va vn vc vz), (3, .ptr (some (k, 0))), (12, .slc va vn vc vz), (13, .int .i64 vn), (14, .int .i64 (j : Nat))]) pats.length
    ⟨0, _, [], by omega, by omega, B2, run, by simp [wt, st0] at hw ⊢; omega, u02, rfl, by simp [Has]⟩ ?_
  rintro m st hh ⟨j, ssj, psj, hj, rfl, Bj, Rj, hwj, uj, hk9⟩
  rw [hk9.eq]
  obtain ⟨k0, k3, k12, k13, k14, -⟩ := hk9.2
  simp only [slotsFrom, Nat.reduceAdd] at k0 k3 k12 k13 k14 ⊢
  simp only [k0, k3, k12, k13, k14]
  have slj := sv.pst uj.pst
  simp (disch := first | ((try simp only [heapN]) <;> omega) | fail) only [go_sem, seval]
  by_cases hlt : (j : Int) < vn
  · have hjl : j < pats.length := by omega
    obtain ⟨rb, ro, rcs, rl, rfl, rfl, hrb, hrg, ⟨xv, rfl, sx⟩, hrr, hrt, hrc⟩ := slj.at_ (i := j) (x := pats[j]) (List.getElem?_eq_getElem hjl) (k := 1) rfl
    rw [List.drop_eq_getElem_cons hjl] at Rj hwj
    have hpc : pcost (pats[j] :: pats.drop (j + 1)) = cost pats[j] + 1 + pcost (pats.drop (j + 1)) := rfl
    rw [hpc] at hwj
    have hrc0 := hrc 0 (by decide)
    simp only [Nat.add_zero, List.getElem?_cons_zero] at hrc0
    simp (disch := first | ((try simp only [heapN]) <;> omega) | fail) only [go_sem, seval, hlt, hrg, Int.toNat_natCast, hrc0]
    generalize hdr : pats.drop (j + 1) = rest at Rj hwj
    cases Rj with
    | cons hrun hr h0 ht =>
    rename_i ss1 r1
    have hwr := hrun.wt
    refine callV_ofU F_53 rfl ((pattern_uf Bj sx hrun (hll _ (List.getElem_mem hjl)) (by omega)).mono ?_)
    rintro v3 h3 ⟨u3, B3, rfl⟩
    simp (disch := first | ((try simp only [heapN]) <;> omega) | fail) only [go_sem, seval]
    obtain ⟨h6, e6, x6, B6, g66, n6⟩ := nb_box B3 (.cells [.int .i64 0, .int .i64 0] true) [.int .i64 r1.from_, .int .i64 r1.to_]
    rw [← e6]
    have n63 : h6.nxt = h3.nxt + 1 := by rw [e6]; simp
    rw [← n63]
    have u36 := u3.trans (x6.upd _)
    refine callV_ofU F_54 rfl ((freeA_uf B6 (Ext.add _ _) (b := h6.nxt) (Nat.le_refl _) (by simp) (i := 0) h0 (n := 1) [r1.from_] rfl get_add_self rfl (by simp; omega)).mono ?_)
    rintro v7 h7 ⟨u7, B7⟩
    have g76 := (u7.get h3.nxt n6 (by simp)).trans g66
    have n7 := u7.nxt
    have wf := wt_free ss1 0 [r1.from_]
    simp only [List.length_cons, List.length_nil] at wf
    have lf := freeS_len ss1 0 [r1.from_]
    generalize freeS ss1 0 [r1.from_] = s7 at B7 ht wf lf
    have B7' := B7
    obtain ⟨hk7, lv, pv, vs, g7, V7, N7⟩ := B7'
    have hto : r1.to_ < s7.length := by rw [lf]; exact hr.2
    have hx : s7[r1.to_]? = some s7[r1.to_] := List.getElem?_eq_getElem hto
    have hvl := V7.len
    obtain ⟨v, hv⟩ : ∃ v, vs[r1.to_]? = some v := ⟨vs[r1.to_], List.getElem?_eq_getElem (by omega)⟩
    generalize s7[r1.to_] = x7' at hx
    have e10 : Ext h7 (h7.bump 11) := Ext.bump _ _
    have V10 := V7.upd (e10.upd fun _ => False) fun _ _ _ _ f => f
    have hc := stCs_get hx hv
    have M := V10.l.mine (by rw [stCs_len V7.len]; omega)
    have M' := M
    obtain ⟨lb, lo, cs, rfl, hmk, hB⟩ := M'
    have hgB : h7.get lb = some (.cells cs true) := hB.get
    rw [stCs_len V7.len] at V7 V10 M g7 N7
    obtain ⟨o0, M0⟩ := mine_store M (j := 4) (.int .i64 ((j : Int) + 1)) hc (by decide) hgB
    have hlt2 : (r1.to_ : Int) < s7.length := by omega
    have hlb := fresh_lt' V7.l (b := lb) rfl
    have n76 : h3.nxt < h7.nxt := by omega
    have l6 : lb ≠ h3.nxt := fun e => (N7 h3.nxt (.inr rfl)).2.2.1 (by rw [← e]; rfl)
    have lk : lb ≠ k := by omega
    simp (disch := first | ((try simp only [heapN]) <;> omega) | fail) only [go_sem, seval]
    refine DrawU_of' (fun b => b = k ∨ b = h3.nxt) [0, 1, 3, 7, 0, 16, 0, 64, 255, 511, 1023] (by rfl) (by rfl) (fun b hb => by rcases hb with rfl | rfl; exact hk7; exact n76) ?_
    simp (disch := first | ((try simp only [heapN]) <;> omega) | fail) only [go_sem, seval]
    refine LoadK_ofU rfl (.inl rfl) ?_
    simp (disch := first | ((try simp only [heapN]) <;> omega) | fail) only [go_sem, seval, g7]
    refine LoadK_ofU rfl (.inr rfl) ?_
    simp (disch := first | ((try simp only [heapN]) <;> omega) | fail) only [go_sem, seval, g76, hlt2, hgB, Int.toNat_natCast, o0]
    have uS : Upd (· = lb) h7 ((h7.bump 11).put lb (.cells (cs.set (lo + r1.to_ * 5 + 4) (.int .i64 ((j : Int) + 1))) true)) := (e10.upd _).trans (Upd.put _ rfl fun c e => by
      have : h7.get lb = some (.cells c false) := e
      rw [hgB] at this; simp at this)
    refine ⟨fun b hb => ?_, ?_⟩
    · rcases hb with rfl | rfl
      · exact get_put_ne lk
      · exact get_put_ne l6
    generalize ((h7.bump 11).put lb (.cells (cs.set (lo + r1.to_ * 5 + 4) (.int .i64 ((j : Int) + 1))) true)) = h11 at M0 uS ⊢
    have V11 := V7.setSt (x' := { x7' with fin := j + 1 }) (v' := v) hx hv (uS.weak fun b _ e => .inl (by rw [e]; rfl)) (.inr (by
      rw [stCs_set _ _ _ V7.len]
      simpa [stC] using M0)) ((V7.f _ _ v hx hv).upd uS fun b _ e e2 => (V7.fl _ v b hv e).1 (by rw [e2]; rfl)) fun b e => .inl e
    have hvset : vs.set r1.to_ v = vs := by
      refine List.ext_getElem? fun i => ?_
      by_cases hi : r1.to_ = i
      · subst hi; rw [List.getElem?_set_self (by omega), hv]
      · rw [List.getElem?_set_ne hi]
    rw [hvset] at V11
    have hend : endS s7 r1.to_ (j + 1) = s7.set r1.to_ { x7' with fin := j + 1 } := by unfold endS; rw [hx]
    have B11 : Nb h11 k (· < k) (endS s7 r1.to_ (j + 1)) [r1] := by
      rw [hend]
      exact ⟨Nat.lt_of_lt_of_le hk7 uS.nxt, _, _, _, (uS.get k hk7 (Ne.symm lk)).trans g7, V11, fun b hb => by obtain ⟨m1, m2⟩ := N7 b (.inl hb); exact ⟨Nat.lt_of_lt_of_le m1 uS.nxt, m2⟩⟩
    have uj11 : Upd (k ≤ ·) h h11 := ((uj.trans (u36.weak fun b _ e => by omega)).trans (u7.weak fun b _ e => by omega)).trans (uS.weak fun b _ e => by omega)
    refine AgainK.mk (pats.length - (j + 1)) (by simp only; omega) ⟨j + 1, _, _, by omega, rfl, B11, by rw [hdr]; exact ht, by rw [hdr, endS_wt]; omega, uj11, rfl, by simp [Has]⟩
  · have hjn : j = vn := by omega
    subst hjn
    rw [hn, List.drop_length] at Rj
    cases Rj
    obtain ⟨hkj, lv, pv, vs, gj, V, N⟩ := Bj
    obtain ⟨h9, l9, n9, L9, u9⟩ := V.frz
    simp (disch := first | ((try simp only [heapN]) <;> omega) | fail) only [go_sem, seval, hlt, gj]
    refine hQ _ _ h9 l9 ⟨(uj.trans (u9.weak fun b _ e => by omega)).ext fun b hb => by omega, L9⟩

end Go.Proofs.Ytenpjkinpecnfaa
