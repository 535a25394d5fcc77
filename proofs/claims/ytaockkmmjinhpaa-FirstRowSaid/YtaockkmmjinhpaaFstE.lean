/-
  Layer first: as many sets of so many; sets that are written.
-/
import Derived.Test.YtaockkmmjinhpaaFstD
namespace Go.Proofs.Ytaockkmmjinhpaa
open Go Go.Am
set_option maxRecDepth 100000
set_option maxHeartbeats 4000000
set_option linter.unusedSimpArgs false
set_option linter.unusedVariables false

theorem zero_slcs (n : Nat) : zeroRow [.slc none 0 (some 0) 0] n = List.replicate n (.slc none 0 (some 0) 0) := by
  refine List.ext_getElem (by simp [zeroRow]) fun i h1 h2 => ?_
  simp [zeroRow, Nat.mod_one]
theorem mk_slcs {K : KH} {h : Heap} {n : Nat} (hn : n ≤ 1000000) (k : K.k (.slc (some (h.nxt, 0)) n (some n) 1) (h.add (.cells (List.replicate n (.slc none 0 (some 0) 0)) true))) : @OBk (makeSliceA T 74 (.int .i64 n) (.int .i64 n) h) K := by
  have e : makeSliceA T 74 (.int .i64 n) (.int .i64 n) h = some (.slc (some (h.nxt, 0)) n (some n) 1, h.add (.cells (List.replicate n (.slc none 0 (some 0) 0)) true)) := by
    simp only [makeSliceA, T_74, T_73]
    rw [if_pos (by omega), Int.toNat_natCast, Nat.mul_one, zero_slcs]
  exact OBk_of e k
def rowV (m b : Nat) : AV := .slc (some (b, 0)) m (some m) 1
theorem sets_uf {h : Heap} {n m : Nat} (hn : n ≤ 1000) (hm : m ≤ 1000) : UF T F 89 [.int .i64 (n : Nat), .int .i64 (m : Nat)] h fun v' h' => Ext h h' ∧ v' = .slc (some (h.nxt, 0)) n (some n) 1 ∧ ∃ bl, Tbl h' h.nxt m bl (List.replicate n (List.replicate m false)) ∧ ∀ b ∈ bl, h.nxt < b := by
  refine UF.gen fun Q hQ => UF.of (F_89) (c := _) rfl ?_
  unfold Try.f89
  simp only [List.length, Nat.reduceSub, Nat.reduceAdd, List.replicate, List.cons_append, List.nil_append]
  simp (disch := omega) only [go_sem, seval]
  refine mk_slcs (by omega) ?_
  have e1 : Ext h (h.add (.cells (List.replicate n (.slc none 0 (some 0) 0)) true)) := Ext.add _ _
  have g1 : (h.add (.cells (List.replicate n (.slc none 0 (some 0) 0)) true)).get h.nxt = some (.cells (List.replicate n (.slc none 0 (some 0) 0)) true) := get_add_self
  have n1 : (h.add (.cells (List.replicate n (.slc none 0 (some 0) 0)) true)).nxt = h.nxt + 1 := by simp
  simp (disch := omega) only [go_sem, seval]
  generalize (h.add (.cells (List.replicate n (.slc none 0 (some 0) 0)) true)) = h1 at *
  refine LoopU_while (fun q st hh => ∃ (i : Nat) (bl : List Nat), i ≤ n ∧ q = n - i ∧ Ext h hh ∧ h.nxt < hh.nxt ∧ hh.get h.nxt = some (.cells (bl.map (rowV m) ++ List.replicate (n - i) (.slc none 0 (some 0) 0)) true) ∧ bl.length = i ∧ bl.Nodup ∧ (∀ b ∈ bl, h.nxt < b ∧ Bits hh b (rowV m b) (List.replicate m false)) ∧
      Keep st 21 [(1, .int .i64 (m : Nat)), (5, .slc (some (h.nxt, 0)) n (some n) 1), (10, .int .i64 (n : Nat)), (11, .int .i64 (i : Nat))]) n
    ⟨0, [], by omega, by omega, e1, by omega, by simpa using g1, rfl, by simp, by simp, rfl, by simp [Has]⟩ ?_
  rintro q st hh ⟨i, bl, hi, rfl, eh, hnh, gh, hbl, hnd, hrow, hk⟩
  rw [hk.eq]
  obtain ⟨k1, k5, k10, k11, -⟩ := hk.2
  simp only [slotsFrom, Nat.reduceAdd] at k1 k5 k10 k11 ⊢
  simp only [k1, k5, k10, k11]
  simp (disch := omega) only [go_sem, seval]
  by_cases hlt : (i : Int) < (n : Int)
  · simp (disch := omega) only [go_sem, seval, hlt]
    refine mk_bits T_73 (by omega) ?_
    have e2 : Ext hh (hh.add (.cells ((List.replicate m false).map AV.bool) true)) := Ext.add _ _
    have gh2 := (e2.get _ hnh).trans gh
    have B2 : Bits (hh.add (.cells ((List.replicate m false).map AV.bool) true)) hh.nxt (rowV m hh.nxt) (List.replicate m false) := by
      have := bits_new (h := hh) (n := m)
      exact this
    have n2 : (hh.add (.cells ((List.replicate m false).map AV.bool) true)).nxt = hh.nxt + 1 := by simp
    have hroom : i * 1 + 1 ≤ (bl.map (rowV m) ++ List.replicate (n - i) (AV.slc none 0 (some 0) 0)).length := by simp; omega
    have hroom2 : i * 1 + 1 ≤ (bl.map (rowV m)).length + (List.replicate (n - i) (AV.slc none 0 (some 0) 0)).length := by simp; omega
    have hset : ∀ x, (bl.map (rowV m) ++ List.replicate (n - i) (AV.slc none 0 (some 0) 0)).set (i * 1) x = bl.map (rowV m) ++ [x] ++ List.replicate (n - (i + 1)) (.slc none 0 (some 0) 0) := fun x => by
      rw [Nat.mul_one, List.set_append_right _ _ (by simp; omega), List.length_map, hbl, Nat.sub_self, show n - i = n - (i + 1) + 1 by omega, List.replicate_succ, List.set_cons_zero, List.append_assoc]; rfl
    simp (disch := omega) only [go_sem, seval, hlt, gh2, hroom, hroom2, hset, Int.toNat_natCast]
    generalize (hh.add (.cells ((List.replicate m false).map AV.bool) true)) = h2 at *
    have u3 : Upd (· = h.nxt) h2 (h2.put h.nxt (.cells (bl.map (rowV m) ++ [.slc (some (hh.nxt, 0)) m (some m) 1] ++ List.replicate (n - (i + 1)) (.slc none 0 (some 0) 0)) true)) := Upd.put _ rfl fun cs e => by rw [gh2] at e; simp at e
    refine AgainK.mk (n - (i + 1)) (by simp only; omega) ⟨i + 1, bl ++ [hh.nxt], by omega, rfl, (((eh.trans e2).upd (h.nxt ≤ ·)).trans' u3 fun b e _ => by omega).ext fun b hb => by omega, by simp; omega, ?_, by simp [hbl], ?_, fun b hb => ?_, rfl, by simp [Has]⟩
    · rw [get_put_self, List.map_append]; rfl
    · rw [List.nodup_append]
      refine ⟨hnd, by simp, fun a ha b hb => ?_⟩
      simp only [List.mem_singleton] at hb
      have := (hrow a ha).2.2.1
      omega
    · rcases List.mem_append.1 hb with hb | hb
      · exact ⟨(hrow b hb).1, ((hrow b hb).2.ext e2).upd u3 (by have := (hrow b hb).1; omega)⟩
      · simp only [List.mem_singleton] at hb
        subst hb
        exact ⟨hnh, B2.upd u3 (by omega)⟩
  · simp (disch := omega) only [go_sem, seval, hlt]
    have hie : i = n := by omega
    subst hie
    rw [Nat.sub_self, List.replicate_zero, List.append_nil] at gh
    refine hQ _ _ ⟨eh, rfl, bl, ⟨hnh, gh, by simp [hbl], fun j b r h1 h2 => ?_, hnd, fun hin => by have := (hrow _ hin).1; omega⟩, fun b hb => (hrow b hb).1⟩
    have hr : r = List.replicate m false := List.eq_of_mem_replicate (List.mem_of_getElem? h2)
    subst hr
    exact ⟨List.length_replicate, (hrow b (List.mem_of_getElem? h1)).2⟩

/-- One of the sets is written. -/
theorem Tbl.write {h h' : Heap} {ob m k : Nat} {bl : List Nat} {rows : List (List Bool)} {b : Nat} {r : List Bool} (t : Tbl h ob m bl rows) (hb : bl[k]? = some b) (u : Upd (· = b) h h') (hr : r.length = m) (B : Bits h' b (.slc (some (b, 0)) m (some m) 1) r) : Tbl h' ob m bl (rows.set k r) := by
  have hne : ob ≠ b := fun e => t.ne (e ▸ List.mem_of_getElem? hb)
  refine ⟨Nat.lt_of_lt_of_le t.lt u.nxt, (u.get _ t.lt hne).trans t.get, by rw [List.length_set]; exact t.len, fun i c q h1 h2 => ?_, t.nd, t.ne⟩
  by_cases hik : k = i
  · subst hik
    rw [hb] at h1
    simp only [Option.some.injEq] at h1
    subst h1
    have hk : k < rows.length := by have := (List.getElem?_eq_some_iff.1 h2).1; rwa [List.length_set] at this
    rw [List.getElem?_set_self hk] at h2
    simp only [Option.some.injEq] at h2
    subst h2
    exact ⟨hr, B⟩
  · rw [List.getElem?_set_ne hik] at h2
    obtain ⟨q1, q2⟩ := t.row i c q h1 h2
    refine ⟨q1, q2.upd u fun e => hik ?_⟩
    subst e
    obtain ⟨l1, e1⟩ := List.getElem?_eq_some_iff.1 hb
    obtain ⟨l2, e2⟩ := List.getElem?_eq_some_iff.1 h1
    exact (List.getElem_inj t.nd).1 (e1.trans e2.symm)

end Go.Proofs.Ytaockkmmjinhpaa
