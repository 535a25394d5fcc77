/-
  Choices out of numbers (seat of gram, first, ll).
-/
import Derived.Test.YtaockkmmjinhpaaAmTl
import Derived.Test.YtaockkmmjinhpaaAmAu
import Derived.Test.YtaockkmmjinhpaaAmSt
import Derived.Test.YtaockkmmjinhpaaAmUz
import Derived.KernelRfl
namespace Go.Proofs.Ytaockkmmjinhpaa
open Go Go.Am
set_option maxRecDepth 100000
set_option maxHeartbeats 4000000
set_option linter.unusedSimpArgs false
set_option linter.unusedVariables false

/-- Numbers from which choices are read. -/
structure Pk (h : Heap) (k : Nat) (v : AV) (l : List UInt8) : Prop where
  lt : k < h.nxt
  g : ∃ n : Nat, h.get k = some (.cells [v, .int .i64 n] true) ∧ n ≤ l.length
  s : Lst h v l
theorem Pk.ext {h h' : Heap} {k : Nat} {v : AV} {l : List UInt8} (P : Pk h k v l) (e : Ext h h') : Pk h' k v l := by
  obtain ⟨hk, ⟨n, g, hn⟩, s⟩ := P
  exact ⟨Nat.lt_of_lt_of_le hk e.nxt, ⟨n, (e.get _ hk).trans g, hn⟩, s.ext e⟩
theorem Pk.upd {h h' : Heap} {k : Nat} {v : AV} {l : List UInt8} {S : Nat → Prop} (P : Pk h k v l) (u : Upd S h h') (hS : ¬ S k) : Pk h' k v l := by
  obtain ⟨hk, ⟨n, g, hn⟩, s⟩ := P
  exact ⟨Nat.lt_of_lt_of_le hk u.nxt, ⟨n, (u.get _ hk hS).trans g, hn⟩, s.pst u.pst⟩
/-- Blocks that are not its are written. -/
theorem Pk.putNew {h0 h h' : Heap} {k : Nat} {v : AV} {l : List UInt8} (P0 : Pk h0 k v l) (P : Pk h k v l) (u : Upd (· = k) h0 h') (e : h'.get k = h.get k) : Pk h' k v l := by
  obtain ⟨_, ⟨n, g, hn⟩, _⟩ := P
  exact ⟨Nat.lt_of_lt_of_le P0.lt u.nxt, ⟨n, e.trans g, hn⟩, P0.s.pst u.pst⟩

theorem Made_uf {h : Heap} {v : AV} {l : List UInt8} (hv : Lst h v l) : UF T F 25 [v] h fun v' h' => Ext h h' ∧ v' = .ptr (some (h.nxt, 0)) ∧ Pk h' h.nxt v l := by
  obtain ⟨a, n, c, z, rfl, hn⟩ := hv.form
  refine UF.gen fun Q hQ => UF.of (F_25) (c := _) rfl ?_
  unfold Try.f25
  simp only [List.length, Nat.reduceSub, Nat.reduceAdd, List.replicate, List.cons_append, List.nil_append]
  simp (disch := omega) only [go_sem, seval]
  exact hQ _ _ ⟨Ext.add _ _, rfl, by simp, ⟨0, get_add_self, by omega⟩, hv.ext (Ext.add _ _)⟩

theorem Num_uf {h : Heap} {k m : Nat} {v : AV} {l : List UInt8} (P : Pk h k v l) (hl : l.length ≤ 1000) (hm : 0 < m ∧ m ≤ 1000) : UF T F 47 [.ptr (some (k, 0)), .int .i64 m] h fun v' h' => Upd (· = k) h h' ∧ Pk h' k v l ∧ ∃ x : Nat, x < m ∧ v' = .int .i64 x := by
  obtain ⟨hk, ⟨n, g, hn⟩, s⟩ := P
  obtain ⟨a, ln, c, z, rfl, hln⟩ := s.form
  refine UF.gen fun Q hQ => UF.of (F_47) (c := _) rfl ?_
  unfold Try.f47
  simp only [List.length, Nat.reduceSub, Nat.reduceAdd, List.replicate, List.cons_append, List.nil_append]
  simp (disch := omega) only [go_sem, seval]
  refine DrawU_quiet (by rfl) ?_
  simp (disch := omega) only [go_sem, seval, g]
  by_cases hge : (n : Int) ≥ ln
  · simp (disch := omega) only [go_sem, seval, hge]
    exact hQ _ _ ⟨(Ext.bump _ _).upd _, ⟨by simp; omega, ⟨n, g, hn⟩, s.ext (Ext.bump _ _)⟩, 0, hm.1, rfl⟩
  · have hlt : n < l.length := by omega
    obtain ⟨b, o, cs, e, rfl, rfl, hb, hg, rfl, hroom, htake, hcell⟩ := s.at_ (i := n) (x := l[n]) (List.getElem?_eq_getElem hlt) (k := 1) rfl
    have hbk : b ≠ k := by rintro rfl; rw [g] at hg; simp at hg
    simp (disch := omega) only [go_sem, seval, hge, g]
    have hc := hcell 0 (by decide)
    have hi : ((n : Int) + 1 - 1) = n := by omega
    have hi0 : (0 : Int) ≤ (n : Int) := by omega
    have hi1 : (n : Int) < ln := by omega
    have hm0 : ¬ ((m : Int) = 0) := by omega
    have hc' : cs[o + n]? = some (.int .u8 l[n].toNat) := by simpa using hc
    have hw : IntKind.i64.wrap (l[n].toNat : Int) = l[n].toNat := wrap_i64 (by omega) (by have := l[n].toNat_lt; omega)
    refine DrawU_quiet (by rfl) ?_
    simp (disch := omega) only [go_sem, seval, hi, hi0, hi1, hg, hm0, hw, Int.toNat_natCast, Nat.mul_one, hc']
    have u1 : Upd (· = k) (h.bump 10) ((h.bump 10).put k (.cells [AV.slc (some (b, o)) ln c 1, AV.int IntKind.i64 ((n : Int) + 1)] true)) := Upd.put _ rfl fun cs e => by rw [bump_get, g] at e; simp at e
    have u2 := ((Ext.bump h 10).upd (· = k)).trans (u1.trans ((Ext.bump _ 15).upd _))
    refine hQ _ _ ⟨u2, ⟨by simp; omega, ⟨n + 1, by rw [bump_get]; exact get_put_self, by omega⟩, s.pst u2.pst⟩, l[n].toNat % m, Nat.mod_lt _ hm.1, ?_⟩
    rw [Int.ofNat_tmod]


end Go.Proofs.Ytaockkmmjinhpaa
