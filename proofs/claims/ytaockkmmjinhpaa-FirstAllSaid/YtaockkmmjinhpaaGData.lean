/-
  Grammars, as they lie in the heap; what attributes there are.
-/
import Derived.Test.YtaockkmmjinhpaaGPick
namespace Go.Proofs.Ytaockkmmjinhpaa
open Go Go.Am
set_option maxRecDepth 100000
set_option maxHeartbeats 4000000
set_option linter.unusedSimpArgs false
set_option linter.unusedVariables false

/-- Cells, whatever they hold. -/
structure Opq (n : Nat) where
  l : List AV
instance (n : Nat) : Rep (Opq n) := ⟨n, fun _ x cs => cs = x.l ∧ x.l.length = n ∧ x.l.all AV.leaf = true, fun ⟨e, hl, _⟩ => by rw [e]; exact hl, fun ⟨e, _, hv⟩ => by rw [e]; exact hv, fun e _ => e⟩
structure GSym where
  tok : Bool
  at_ : Int
instance : Rep GSym := ⟨2, fun _ x cs => cs = [.bool x.tok, .int .i64 x.at_], fun e => by rw [e]; rfl, fun e => by rw [e]; rfl, fun e _ => e⟩
structure GTok where
  name : List UInt8
  rex : List UInt8
  skip : Bool
instance : Rep GTok := ⟨3, fun _ x cs => cs = [.str x.name, .str x.rex, .bool x.skip], fun e => by rw [e]; rfl, fun e => by rw [e]; rfl, fun e _ => e⟩
structure GNt where
  name : List UInt8
  inh : List Str
  syn : List Str
instance : Rep GNt := ⟨3, fun h x cs => ∃ a b, cs = [.str x.name, a, b] ∧ Lst h a x.inh ∧ Lst h b x.syn, fun ⟨_, _, e, _⟩ => by rw [e]; rfl, fun ⟨_, _, e, s, t⟩ => by
  obtain ⟨a, n, c, z, rfl, _⟩ := s.form; obtain ⟨a, n, c, z, rfl, _⟩ := t.form; rw [e]; rfl, fun ⟨_, _, e, s, t⟩ p => ⟨_, _, e, s.pst p, t.pst p⟩⟩
structure GProd where
  left : Int
  right : List GSym
  rules : List (Opq 10)
instance : Rep GProd := ⟨3, fun h x cs => ∃ a b, cs = [.int .i64 x.left, a, b] ∧ Lst h a x.right ∧ Lst h b x.rules, fun ⟨_, _, e, _⟩ => by rw [e]; rfl, fun ⟨_, _, e, s, t⟩ => by
  obtain ⟨a, n, c, z, rfl, _⟩ := s.form; obtain ⟨a, n, c, z, rfl, _⟩ := t.form; rw [e]; rfl, fun ⟨_, _, e, s, t⟩ p => ⟨_, _, e, s.pst p, t.pst p⟩⟩

/-- Nonterminals with few attributes. -/
def FewA (ns : List GNt) : Prop := ∀ x ∈ ns, x.inh.length ≤ 2 ∧ x.syn.length ≤ 2
def cntA (ns : List GNt) (n : Int) : Nat := if n < 0 then 0 else match ns[n.toNat]? with | some x => x.inh.length + x.syn.length | none => 0
theorem cntA_le {ns : List GNt} (h : FewA ns) (n : Int) : cntA ns n ≤ 4 := by
  unfold cntA
  split
  · omega
  · split
    · rename_i x hx
      have := h x (List.mem_of_getElem? hx); omega
    · omega
theorem cntA_pos {ns : List GNt} {n : Int} (h : 0 < cntA ns n) : ∃ k : Nat, n = k ∧ k < ns.length := by
  unfold cntA at h
  split at h
  · omega
  · rename_i hn
    refine ⟨n.toNat, by omega, ?_⟩
    rcases Nat.lt_or_ge n.toNat ns.length with h1 | h1
    · exact h1
    · rw [List.getElem?_eq_none h1] at h; simp at h
theorem Count_uf {h : Heap} {nv : AV} {ta pa : Option (Nat × Nat)} {tn pn : Nat} {tc pc : Option Nat} {tz pz : Nat} {ns : List GNt} {n : Int} (sl : Lst h nv ns) (hn : ns.length ≤ 1000) (hf : FewA ns) : UF T F 101 [.agg [.slc ta tn tc tz, nv, .slc pa pn pc pz], .int .i64 n] h fun v' h' => Ext h h' ∧ v' = .int .i64 (cntA ns n : Nat) := by
  obtain ⟨a, ln, c, z, rfl, hln⟩ := sl.form
  refine UF.gen fun Q hQ => UF.of (F_101) (c := _) rfl ?_
  unfold Try.f101
  simp only [List.length, Nat.reduceSub, Nat.reduceAdd, List.replicate, List.cons_append, List.nil_append]
  simp (disch := omega) only [go_sem, seval]
  have e1 : Ext h (h.add (.cells [.slc ta tn tc tz, .slc a ln c z, .slc pa pn pc pz] true)) := Ext.add _ _
  by_cases q1 : n < 0
  · simp (disch := omega) only [go_sem, seval, q1]
    exact hQ _ _ ⟨e1, by unfold cntA; rw [if_pos q1]; rfl⟩
  · by_cases q2 : n ≥ (ln : Int)
    · simp (disch := omega) only [go_sem, seval, q1, q2, get_add_self]
      exact hQ _ _ ⟨e1, by unfold cntA; rw [if_neg q1, List.getElem?_eq_none (by omega)]; rfl⟩
    · obtain ⟨k, rfl⟩ : ∃ k : Nat, n = k := ⟨n.toNat, by omega⟩
      have hk : k < ns.length := by omega
      have hk2 : (k : Int) < (ln : Int) := by omega
      obtain ⟨b1, o1, cs1, l1, rfl, rfl, hb1, hg1, ⟨ia, sa, rfl, si, ss⟩, hr1, ht1, hc1⟩ := (sl.ext e1).at_ (i := k) (x := ns[k]) (List.getElem?_eq_getElem hk) (k := 3) rfl
      have hfk := hf ns[k] (List.getElem_mem hk)
      have hcn : cntA ns (k : Int) = ns[k].inh.length + ns[k].syn.length := by
        unfold cntA
        rw [if_neg q1, Int.toNat_natCast, List.getElem?_eq_getElem hk]
      generalize ns[k] = x at *
      obtain ⟨ia, il, ic, iz, rfl, hil⟩ := si.form
      obtain ⟨sa, sl2, sc, sz, rfl, hsl⟩ := ss.form
      have c1 : cs1[o1 + k * 3 + 1]? = some (.slc ia il ic iz) := hc1 1 (by decide)
      have c2 : cs1[o1 + k * 3 + 2]? = some (.slc sa sl2 sc sz) := hc1 2 (by decide)
      simp (disch := omega) only [go_sem, seval, q1, q2, get_add_self]
      refine DrawU_quiet (by rfl) ?_
      simp (disch := omega) only [go_sem, seval, q1, q2, hk2, get_add_self, hg1, c1, c2, Int.toNat_natCast]
      exact hQ _ _ ⟨e1.trans (Ext.bump _ _), by rw [hcn, hil, hsl]; simp⟩

theorem IsInh_uf {h : Heap} {nv : AV} {ta pa : Option (Nat × Nat)} {tn pn : Nat} {tc pc : Option Nat} {tz pz : Nat} {ns : List GNt} {z : Int} {n k : Nat} (hz : z = n) (sl : Lst h nv ns) (hn : n < ns.length) (hl : ns.length ≤ 1000) : UF T F 102 [.agg [.slc ta tn tc tz, nv, .slc pa pn pc pz], .int .i64 z, .int .i64 (k : Nat)] h fun v' h' => Ext h h' ∧ ∃ b, v' = .bool b := by
  subst hz
  obtain ⟨a, ln, c, z, rfl, hln⟩ := sl.form
  refine UF.gen fun Q hQ => UF.of (F_102) (c := _) rfl ?_
  unfold Try.f102
  simp only [List.length, Nat.reduceSub, Nat.reduceAdd, List.replicate, List.cons_append, List.nil_append]
  simp (disch := omega) only [go_sem, seval]
  have e1 : Ext h (h.add (.cells [.slc ta tn tc tz, .slc a ln c z, .slc pa pn pc pz] true)) := Ext.add _ _
  have hk2 : (n : Int) < (ln : Int) := by omega
  obtain ⟨b1, o1, cs1, l1, rfl, rfl, hb1, hg1, ⟨ia, sa, rfl, si, ss⟩, hr1, ht1, hc1⟩ := (sl.ext e1).at_ (i := n) (x := ns[n]) (List.getElem?_eq_getElem hn) (k := 3) rfl
  generalize ns[n] = x at *
  obtain ⟨ia, il, ic, iz, rfl, hil⟩ := si.form
  obtain ⟨sa, sl2, sc, sz, rfl, hsl⟩ := ss.form
  have c1 : cs1[o1 + n * 3 + 1]? = some (.slc ia il ic iz) := hc1 1 (by decide)
  have q0 : (n : Int) ≥ 0 := by omega
  have q1 : (k : Int) ≥ 0 := by omega
  simp (disch := omega) only [go_sem, seval, q0, q1, hk2, get_add_self, hg1, c1, Int.toNat_natCast]
  exact hQ _ _ ⟨e1, _, rfl⟩

/-- An expression, whatever it is. -/
structure GEx where
  op : Int
  kd : Int
  i : Int
  s : List UInt8
  la : Option (Nat × Nat)
  ln : Nat
  lc : Option Nat
  lz : Nat
  oc : Int
  at_ : Int
  xa : Option (Nat × Nat)
  xn : Nat
  xc : Option Nat
  xz : Nat
def GEx.cells (e : GEx) : List AV := [.int .i64 e.op, .int .i64 e.kd, .int .i64 e.i, .str e.s, .slc e.la e.ln e.lc e.lz, .int .i64 e.oc, .int .i64 e.at_, .slc e.xa e.xn e.xc e.xz]
instance : Rep GEx := ⟨8, fun _ x cs => cs = x.cells, fun e => by rw [e]; rfl, fun e => by rw [e]; rfl, fun e _ => e⟩
theorem con_uf {h : Heap} {a b : Int} {c : List UInt8} : UF T F 62 [.agg [.int .i64 a, .int .i64 b, .str c, .slc none 0 (some 0) 0]] h fun v' h' => Ext h h' ∧ ∃ e : GEx, v' = .agg e.cells := by
  refine UF.gen fun Q hQ => UF.of (F_62) (c := _) rfl ?_
  unfold Try.f62
  simp only [List.length, Nat.reduceSub, Nat.reduceAdd, List.replicate, List.cons_append, List.nil_append]
  simp (disch := omega) only [go_sem, seval]
  have g0 : ((h.add (.cells [.int .i64 a, .int .i64 b, .str c, .slc none 0 (some 0) 0] true)).add (.cells [.int .i64 0, .int .i64 0, .int .i64 0, .str [], .slc none 0 (some 0) 0, .int .i64 0, .int .i64 0, .slc none 0 (some 0) 0] true)).get h.nxt = some (.cells [.int .i64 a, .int .i64 b, .str c, .slc none 0 (some 0) 0] true) := by rw [get_add_lt (by simp), get_add_self]
  have g1 : ((h.add (.cells [.int .i64 a, .int .i64 b, .str c, .slc none 0 (some 0) 0] true)).add (.cells [.int .i64 0, .int .i64 0, .int .i64 0, .str [], .slc none 0 (some 0) 0, .int .i64 0, .int .i64 0, .slc none 0 (some 0) 0] true)).get (h.nxt + 1) = some (.cells [.int .i64 0, .int .i64 0, .int .i64 0, .str [], .slc none 0 (some 0) 0, .int .i64 0, .int .i64 0, .slc none 0 (some 0) 0] true) := get_add_self
  simp (disch := omega) only [go_sem, seval, g0, g1, get_put_self]
  exact hQ _ _ ⟨((Ext.add _ _).trans (Ext.add _ _)).put (by simp), ⟨0, a, b, c, none, 0, some 0, 0, 0, 0, none, 0, some 0, 0⟩, rfl⟩
theorem ref_uf {h : Heap} {o k : Int} : UF T F 63 [.int .i64 o, .int .i64 k] h fun v' h' => Ext h h' ∧ ∃ e : GEx, v' = .agg e.cells := by
  refine UF.gen fun Q hQ => UF.of (F_63) (c := _) rfl ?_
  unfold Try.f63
  simp only [List.length, Nat.reduceSub, Nat.reduceAdd, List.replicate, List.cons_append, List.nil_append]
  simp (disch := omega) only [go_sem, seval]
  exact hQ _ _ ⟨(Ext.add _ _).put (Nat.le_refl _), ⟨1, 0, 0, [], none, 0, some 0, 0, o, k, none, 0, some 0, 0⟩, rfl⟩

end Go.Proofs.Ytaockkmmjinhpaa
