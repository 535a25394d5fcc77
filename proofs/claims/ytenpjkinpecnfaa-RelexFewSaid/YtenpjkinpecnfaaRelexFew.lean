/- Of a text of words an edit in one word keeps all others. For how many words there are ahead and behind (each below ten), and what is put into the one (letters, ten at most). -/
import Derived.Test.YtenpjkinpecnfaaRelexF
import Derived.KernelRfl
namespace Go.Proofs.Ytenpjkinpecnfaa
open Go Go.Am
set_option maxRecDepth 100000
set_option maxHeartbeats 2000000
set_option linter.unusedSimpArgs false
set_option linter.unusedVariables false

instance : DecidablePred letter := fun c => inferInstanceAs (Decidable (97 ≤ c ∧ c ≤ 122))
def pcA (n : Nat) : List (List UInt8) := (List.replicate n [[97, 98], [32]]).flatten
def pcC (m : Nat) : List (List UInt8) := (List.replicate m [[32], [99, 100]]).flatten
def strA (n : Nat) : List UInt8 := (List.replicate n [97, 98, 32]).flatten
def strC (m : Nat) : List UInt8 := (List.replicate m [32, 99, 100]).flatten
theorem pcA_str : ∀ n, (pcA n).flatten = strA n
  | 0 => rfl
  | n + 1 => by
    have := pcA_str n
    simp only [pcA, strA, List.replicate_succ, List.flatten_cons, List.flatten_append] at this ⊢
    rw [this]; rfl
theorem pcC_str : ∀ n, (pcC n).flatten = strC n
  | 0 => rfl
  | n + 1 => by
    have := pcC_str n
    simp only [pcC, strC, List.replicate_succ, List.flatten_cons, List.flatten_append] at this ⊢
    rw [this]; rfl
theorem pcA_len (n : Nat) : (pcA n).length = 2 * n := by simp [pcA]; omega
theorem pcC_len (n : Nat) : (pcC n).length = 2 * n := by simp [pcC]; omega
theorem strA_len (n : Nat) : (strA n).length = 3 * n := by simp [strA]; omega
theorem strC_len (n : Nat) : (strC n).length = 3 * n := by simp [strC]; omega
theorem strA_snoc (n : Nat) : strA n ++ [97, 98, 32] = strA (n + 1) := by simp [strA, List.replicate_succ']
theorem strC_snoc (n : Nat) : strC n ++ [32, 99, 100] = strC (n + 1) := by simp [strC, List.replicate_succ']
theorem good_C : ∀ m, Good (pcC m) ∧ (pcC m = [] ∨ (pcC m).head? = some [32])
  | 0 => ⟨trivial, .inl rfl⟩
  | m + 1 => by
    have ih := good_C m
    have he : pcC (m + 1) = [32] :: [99, 100] :: pcC m := rfl
    rw [he]
    exact ⟨⟨.inl rfl, .inr ⟨by simp, by decide, ih.2⟩, ih.1⟩, .inr rfl⟩
theorem good_A {w : List UInt8} (hw : w ≠ []) (hl : ∀ c ∈ w, letter c) (m : Nat) : ∀ n, Good (pcA n ++ w :: pcC m)
  | 0 => ⟨.inr ⟨hw, hl, (good_C m).2⟩, (good_C m).1⟩
  | n + 1 => by
    have he : pcA (n + 1) ++ w :: pcC m = [97, 98] :: [32] :: (pcA n ++ w :: pcC m) := rfl
    rw [he]
    exact ⟨.inr ⟨by simp, by decide, .inr rfl⟩, .inl rfl, good_A hw hl m n⟩
theorem few_spliced {n m : Nat} {put : List UInt8} : spliced (strA n ++ [120, 121] ++ strC m) ((strA n).length + 1) 0 put = strA n ++ ([120] ++ put ++ [121]) ++ strC m := by
  have h1 : (strA n ++ [120, 121] ++ strC m).take ((strA n).length + 1) = strA n ++ [120] := by
    rw [List.append_assoc, List.take_append, List.take_of_length_le (by omega), Nat.add_sub_cancel_left]; rfl
  have h2 : (strA n ++ [120, 121] ++ strC m).drop ((strA n).length + 1) = [121] ++ strC m := by
    rw [List.append_assoc, List.drop_append, List.drop_eq_nil_of_le (by omega), Nat.add_sub_cancel_left]; rfl
  unfold spliced
  rw [Nat.add_zero, h1, h2]; simp

theorem RelexFew_uf {h : Heap} {c1 c2 : UInt8} {put : List UInt8} : UF T F 20 [.int .u8 c1.toNat, .int .u8 c2.toNat, .str put] h fun v' _ => v' = .bool true := by
  refine UF.gen fun Q hQ => UF.of (F_20) (c := _) rfl ?_
  unfold Try.f20
  simp only [List.length, Nat.reduceSub, Nat.reduceAdd, List.replicate, List.cons_append, List.nil_append]
  simp (disch := omega) only [go_sem, seval]
  refine callV_ofU F_43 rfl ((begun7_uf).mono ?_)
  rintro v1 h1 ⟨e1, rfl⟩
  simp (disch := omega) only [go_sem, seval]
  by_cases h10 : (put.length : Int) > 10
  · simp (disch := omega) only [go_sem, seval, h10]
    exact hQ _ _ rfl
  simp (disch := omega) only [go_sem, seval, h10]
  refine LoopU_while (fun m st hh => ∃ (i : Nat), i ≤ put.length ∧ m = put.length - i ∧ Ext h1 hh ∧ (∀ c ∈ put.take i, letter c) ∧ Keep st 119 [(0, .int .u8 c1.toNat), (1, .int .u8 c2.toNat), (2, .str put), (7, .int .i64 (i : Nat))]) put.length
    ⟨0, by omega, by omega, Ext.refl _, by simp, rfl, by simp [Has]⟩ ?_
  rintro m st hh ⟨i, hi, rfl, eh, hlet, hk⟩
  rw [hk.eq]
  obtain ⟨k0, k1, k2, k7, -⟩ := hk.2
  simp only [slotsFrom, Nat.reduceAdd] at k0 k1 k2 k7 ⊢
  simp only [k0, k1, k2, k7]
  simp (disch := omega) only [go_sem, seval]
  by_cases hlt : (i : Int) < (put.length : Int)
  · have hil : i < put.length := by omega
    have hpi : put[i]? = some put[i] := List.getElem?_eq_getElem hil
    by_cases p1 : ((put[i].toNat : Nat) : Int) < 97
    · simp (disch := omega) only [go_sem, seval, hlt, Int.toNat_natCast, hpi, p1]
      exact hQ _ _ rfl
    · by_cases p2 : ((put[i].toNat : Nat) : Int) > 122
      · simp (disch := omega) only [go_sem, seval, hlt, Int.toNat_natCast, hpi, p1, p2]
        exact hQ _ _ rfl
      · simp (disch := omega) only [go_sem, seval, hlt, Int.toNat_natCast, hpi, p1, p2]
        refine AgainK.mk (put.length - (i + 1)) (by simp only; omega) ⟨i + 1, by omega, rfl, eh, fun c hc => ?_, rfl, by simp [Has]⟩
        rw [List.take_add_one, hpi, Option.toList_some] at hc
        rcases List.mem_append.1 hc with hc | hc
        · exact hlet c hc
        · simp only [List.mem_singleton] at hc
          subst hc
          exact ⟨UInt8.le_iff_toNat_le.2 (by show 97 ≤ _; omega), UInt8.le_iff_toNat_le.2 (by show _ ≤ 122; omega)⟩
  · have hie : i = put.length := by omega
    subst hie
    rw [List.take_length] at hlet
    simp (disch := omega) only [go_sem, seval, hlt]
    have lit : Lst ((hh.add (.cells [.str [105, 100], .str [91, 97, 45, 122, 93, 43], .bool false, .str [115, 112], .str [32], .bool true] true)).frzV (.slc (some (hh.nxt, 0)) 2 (some 2) 3)) (.slc (some (hh.nxt, 0)) 2 (some 2) 3) toksF :=
      (LSlc.lit (wr := true) (b := hh.nxt) (ls := [[.str [105, 100], .str [91, 97, 45, 122, 93, 43], .bool false], [.str [115, 112], .str [32], .bool true]]) (by simp) get_add_self rfl (.cons rfl (.cons rfl .nil)) rfl rfl).frz
    refine callV_ofU F_40 rfl ((UF.less (frzV_le _ _) (LexRows40_uf lit (by decide))).mono ?_)
    rintro v2 h2 ⟨e2, m2⟩
    rcases m2 with ⟨_, t, ht, hn⟩ | ⟨es, hP, hF, m2⟩
    · exact absurd hn (patsF.all t ht)
    obtain rfl := hP.rx patsF hF rxsF_ok
    rcases m2 with ⟨w, G, S, R, rfl, L2, W⟩ | ⟨_, hc⟩
    · obtain ⟨n, hn, hn9⟩ : ∃ n : Nat, c1.toNat % 10 = n ∧ n < 10 := ⟨_, rfl, Nat.mod_lt _ (by decide)⟩
      obtain ⟨m, hm, hm9⟩ : ∃ m : Nat, c2.toNat % 10 = m ∧ m < 10 := ⟨_, rfl, Nat.mod_lt _ (by decide)⟩
      have t1 : (c1.toNat : Int).tmod 10 = (n : Nat) := by rw [show (10 : Int) = ((10 : Nat) : Int) from rfl, ← Int.ofNat_tmod, hn]
      have t2 : (c2.toNat : Int).tmod 10 = (m : Nat) := by rw [show (10 : Int) = ((10 : Nat) : Int) from rfl, ← Int.ofNat_tmod, hm]
      obtain ⟨ra, rn, rc, rz, rfl, hrn⟩ := L2.form
      simp (disch := omega) only [go_sem, seval, t1, t2]
      refine LoopU_while (fun k st h3 => ∃ (j : Nat), j ≤ n ∧ k = n - j ∧ Ext h2 h3 ∧ Keep st 119 [(2, .str put), (9, .slc ra rn rc rz), (10, .bool true), (11, .int .i64 (n : Nat)), (12, .int .i64 (m : Nat)), (13, .str (strA j)), (14, .int .i64 (j : Nat))]) n
        ⟨0, by omega, by omega, Ext.refl _, rfl, by simp [Has, strA]⟩ ?_
      rintro k st h3 ⟨j, hj, rfl, e3, hk⟩
      rw [hk.eq]
      obtain ⟨k2, k9, k10, k11, k12, k13, k14, -⟩ := hk.2
      simp only [slotsFrom, Nat.reduceAdd] at k2 k9 k10 k11 k12 k13 k14 ⊢
      simp only [k2, k9, k10, k11, k12, k13, k14]
      simp (disch := omega) only [go_sem, seval]
      have hal := strA_len j
      by_cases hlj : (j : Int) < (n : Int)
      · have hs1 : strOp .add (strA j) [97, 98, 32] = some (.str (strA (j + 1))) := by rw [← strA_snoc]; exact strOp_add (by simp; omega)
        simp (disch := omega) only [go_sem, seval, hlj, hs1]
        exact AgainK.mk (n - (j + 1)) (by simp only; omega) ⟨j + 1, by omega, rfl, e3, rfl, by simp [Has]⟩
      · have hjn : j = n := by omega
        subst hjn
        have hs2 : strOp .add (strA j) [120, 121] = some (.str (strA j ++ [120, 121] ++ strC 0)) := by rw [show strC 0 = [] from rfl, List.append_nil]; exact strOp_add (by simp; omega)
        simp (disch := omega) only [go_sem, seval, hlj, hs2]
        refine LoopU_while (fun k st h4 => ∃ (i : Nat), i ≤ m ∧ k = m - i ∧ Ext h2 h4 ∧ Keep st 119 [(2, .str put), (9, .slc ra rn rc rz), (10, .bool true), (11, .int .i64 (j : Nat)), (12, .int .i64 (m : Nat)), (13, .str (strA j ++ [120, 121] ++ strC i)), (15, .int .i64 ((strA j).length : Nat)), (16, .int .i64 (i : Nat))]) m
          ⟨0, by omega, by omega, e3, rfl, by simp [Has]⟩ ?_
        rintro k st h4 ⟨i, hi, rfl, e4, hk⟩
        rw [hk.eq]
        obtain ⟨k2, k9, k10, k11, k12, k13, k15, k16, -⟩ := hk.2
        simp only [slotsFrom, Nat.reduceAdd] at k2 k9 k10 k11 k12 k13 k15 k16 ⊢
        simp only [k2, k9, k10, k11, k12, k13, k15, k16]
        simp (disch := omega) only [go_sem, seval]
        have hcl := strC_len i
        by_cases hli : (i : Int) < (m : Int)
        · have hs3 : strOp .add (strA j ++ [120, 121] ++ strC i) [32, 99, 100] = some (.str (strA j ++ [120, 121] ++ strC (i + 1))) := by
            rw [← strC_snoc, ← List.append_assoc]; exact strOp_add (by simp; omega)
          simp (disch := omega) only [go_sem, seval, hli, hs3]
          exact AgainK.mk (m - (i + 1)) (by simp only; omega) ⟨i + 1, by omega, rfl, e4, rfl, by simp [Has]⟩
        · have him : i = m := by omega
          subst him
          simp (disch := omega) only [go_sem, seval, hli]
          have hsl : (strA j ++ [120, 121] ++ strC i).length ≤ 100 := by simp; omega
          refine callV_ofU F_41 rfl ((All_uf (s := strA j ++ [120, 121] ++ strC i) (L2.ext e4) W (by omega)).mono ?_)
          rintro v5 h5 ⟨e5, tks, ht, L5⟩
          simp (disch := omega) only [go_sem, seval]
          have hpc : strA j ++ [120, 121] ++ strC i = (pcA j ++ [120, 121] :: pcC i).flatten := by
            rw [List.flatten_append, List.flatten_cons, pcA_str, pcC_str, List.append_assoc]
          obtain rfl := ht.unique (toksP_spec (pcA j ++ [120, 121] :: pcC i) 0 (good_A (w := [120, 121]) (by simp) (by decide) i j) (by rw [List.drop_zero]; exact hpc) (by omega))
          have hat : (((strA j).length : Nat) : Int) + 1 = (((strA j).length + 1 : Nat) : Int) := by omega
          simp (disch := omega) only [go_sem, seval, hat]
          refine callV_ofU F_45 rfl ((Edit_uf (s := strA j ++ [120, 121] ++ strC i) (put := put) (a := (strA j).length + 1) (n := 0) ((L2.ext e4).ext e5) W L5 (by omega) (by omega) (by rw [toksP_len]; simp [pcA_len, pcC_len]; omega) ht.within (by simp <;> omega)).mono ?_)
          rintro v6 h6 ⟨e6, w6, m6, rfl, L6, hm6⟩
          rw [few_spliced] at hm6 ⊢
          have hpt : strA j ++ ([120] ++ put ++ [121]) ++ strC i = (pcA j ++ ([120] ++ put ++ [121]) :: pcC i).flatten := by
            rw [List.flatten_append, List.flatten_cons, pcA_str, pcC_str, List.append_assoc]
          have hlw : ∀ c ∈ [120] ++ put ++ [121], letter c := fun c hc => by
            simp only [List.mem_append, List.mem_singleton] at hc
            rcases hc with (rfl | hc) | rfl
            · decide
            · exact hlet c hc
            · decide
          obtain rfl := hm6.unique (toksP_spec (pcA j ++ ([120] ++ put ++ [121]) :: pcC i) 0 (good_A (w := [120] ++ put ++ [121]) (by simp) hlw i j) (by rw [List.drop_zero]; exact hpt) (by omega))
          obtain ⟨ma, mn, mc, mz, rfl, hmn⟩ := L6.form
          rw [toksP_len, List.length_append, List.length_cons, pcA_len, pcC_len] at hmn
          subst hmn
          by_cases hp0 : put = []
          · subst hp0
            have he : ([120] ++ [] ++ [121] : List UInt8) = [120, 121] := rfl
            rw [he, keptN_same, toksP_len, List.length_append, List.length_cons, pcA_len, pcC_len]
            have hse : strOp .eql ([] : List UInt8) [] = some (.bool true) := rfl
            have hk1 : (2 * (j : Int) + 2 * (i : Int) + 1) = ((2 * j + (2 * i + 1) : Nat) : Int) := by omega
            simp (disch := omega) only [go_sem, seval, hse, hk1]
            exact hQ _ _ rfl
          · rw [kept_pieces hpc hpt (by simp; exact hp0), pcA_len, pcC_len]
            have hse : strOp .eql put [] = some (.bool false) := by simp [strOp, hp0]
            have hk1 : ((2 * j + 2 * i : Nat) : Int) = 2 * (j : Int) + 2 * (i : Int) := by omega
            have hk2 : ((2 * j + (2 * i + 1) : Nat) : Int) = 2 * (j : Int) + 2 * (i : Int) + 1 := by omega
            simp (disch := omega) only [go_sem, seval, hse, hk1, hk2]
            exact hQ _ _ rfl
    · simp [ncls, rxsF] at hc

theorem RelexFew_law {h : Heap} {s : List UInt8} {a b : Int} (w2 : (Lit.int .u8 a).wf = true) (w3 : (Lit.int .u8 b).wf = true) :
    WF T F 20 [.int .u8 a, .int .u8 b, .str s] h fun v' h' => v' = .bool true := by
  obtain ⟨a, rfl⟩ := u8_lit w2
  obtain ⟨b, rfl⟩ := u8_lit w3
  exact UF.toW RelexFew_uf

end Go.Proofs.Ytenpjkinpecnfaa
