import Derived.Test.YtaockkmmjinhpaaFstS
import Derived.Test.YtaockkmmjinhpaaGramOffset
/-
  Layer ll, plain: which production is meant, where several may be.
-/
namespace Go.Proofs.Ytaockkmmjinhpaa
open Go Go.Am
set_option maxRecDepth 100000
set_option linter.unusedSimpArgs false
set_option linter.unusedVariables false

/-- A clash. -/
structure GCl where
  nt : Int
  tok : Int
  a : Int
  b : Int
instance : Rep GCl := ⟨4, fun _ x cs => cs = [.int .i64 x.nt, .int .i64 x.tok, .int .i64 x.a, .int .i64 x.b], fun e => by rw [e]; rfl, fun e => by rw [e]; rfl, fun e _ => e⟩

/-- May a production be meant by a token? -/
def meanL (g : Gm) (fo : List (List Bool)) (p : GProd) (t : Nat) : Bool := (rowL g p.right).1.getD t false || ((rowL g p.right).2 && (fo.getD p.left.toNat []).getD t false)
def meanR (g : Gm) (fo : List (List Bool)) (p : GProd) : List Bool := (List.range (g.toks.length + 1)).map (meanL g fo p)
def mns (M : List (List Bool)) (t : Nat) (p : Int) : Bool := (M.getD p.toNat []).getD t false
/-- Which productions of a nonterminal may be meant, of its first so many. -/
def cnd (ps : List GProd) (M : List (List Bool)) (nt t i : Nat) : List Int := ((offs ps nt ps.length).take i).filter (mns M t)
def cls (nt t : Nat) : List Int → List GCl
  | [] => []
  | a :: l => l.map fun b => ⟨nt, t, a, b⟩
def cndA (ps : List GProd) (M : List (List Bool)) (nt t : Nat) : List Int := (offs ps nt ps.length).filter (mns M t)
theorem cnd_all {ps : List GProd} {M : List (List Bool)} {nt t i : Nat} (h : (offs ps nt ps.length).length ≤ i) : cnd ps M nt t i = cndA ps M nt t := by
  rw [cnd, List.take_of_length_le h]; rfl
theorem cnd_succ {ps : List GProd} {M : List (List Bool)} {nt t i : Nat} {p : Int} (h : (offs ps nt ps.length)[i]? = some p) : cnd ps M nt t (i + 1) = cnd ps M nt t i ++ if mns M t p = true then [p] else [] := by
  rw [cnd, cnd, List.take_add_one, h, Option.toList_some, List.filter_append, List.filter_cons, List.filter_nil]
theorem cnd_mem {ps : List GProd} {M : List (List Bool)} {nt t i : Nat} {p : Int} (h : p ∈ cnd ps M nt t i) : ∃ k : Nat, p = k ∧ k < ps.length ∧ ∃ q, ps[k]? = some q ∧ q.left = (nt : Nat) :=
  offs_mem ps nt ps.length p (List.mem_of_mem_take (List.mem_filter.1 h).1)
theorem cnd_head {ps : List GProd} {M : List (List Bool)} {nt t i : Nat} : (cnd ps M nt t i).headD (-1) < 0 → cnd ps M nt t i = [] := fun h => by
  cases e : cnd ps M nt t i with
  | nil => rfl
  | cons a l =>
    obtain ⟨k, rfl, _⟩ := cnd_mem (ps := ps) (M := M) (nt := nt) (t := t) (i := i) (p := a) (by rw [e]; simp)
    rw [e] at h
    simp at h
    omega
theorem cls_first {ps : List GProd} {M : List (List Bool)} {nt t i : Nat} {p : Int} (h : (offs ps nt ps.length)[i]? = some p) (hm : mns M t p = true) (hh : (cnd ps M nt t i).headD (-1) < 0) :
    (cnd ps M nt t (i + 1)).headD (-1) = p ∧ cls nt t (cnd ps M nt t (i + 1)) = cls nt t (cnd ps M nt t i) := by
  rw [cnd_succ h, cnd_head hh, if_pos hm]
  exact ⟨rfl, rfl⟩
theorem cls_more {ps : List GProd} {M : List (List Bool)} {nt t i : Nat} {p : Int} (h : (offs ps nt ps.length)[i]? = some p) (hm : mns M t p = true) (hh : ¬ (cnd ps M nt t i).headD (-1) < 0) :
    (cnd ps M nt t (i + 1)).headD (-1) = (cnd ps M nt t i).headD (-1) ∧ cls nt t (cnd ps M nt t (i + 1)) = cls nt t (cnd ps M nt t i) ++ [⟨nt, t, (cnd ps M nt t i).headD (-1), p⟩] := by
  rw [cnd_succ h, if_pos hm]
  cases e : cnd ps M nt t i with
  | nil => rw [e] at hh; simp at hh
  | cons a l => exact ⟨rfl, by simp [cls]⟩
theorem cnd_no {ps : List GProd} {M : List (List Bool)} {nt t i : Nat} {p : Int} (h : (offs ps nt ps.length)[i]? = some p) (hm : mns M t p = false) : cnd ps M nt t (i + 1) = cnd ps M nt t i := by
  rw [cnd_succ h, if_neg (by rw [hm]; simp), List.append_nil]

def rowC (ps : List GProd) (M : List (List Bool)) (tn nt : Nat) : List Int := (List.range (tn + 1)).map fun t => (cndA ps M nt t).headD (-1)
def claT (ps : List GProd) (M : List (List Bool)) (nt : Nat) : Nat → List GCl
  | 0 => []
  | t + 1 => claT ps M nt t ++ cls nt t (cndA ps M nt t)
def claN (ps : List GProd) (M : List (List Bool)) (tn : Nat) : Nat → List GCl
  | 0 => []
  | n + 1 => claN ps M tn n ++ claT ps M n (tn + 1)
def tabC (ps : List GProd) (M : List (List Bool)) (tn n : Nat) : List (List Int) := (List.range n).map (rowC ps M tn)

theorem cls_len {nt t : Nat} : ∀ {l : List Int}, (cls nt t l).length ≤ l.length
  | [] => by simp [cls]
  | a :: l => by simp [cls]
theorem cndA_len (ps : List GProd) (M : List (List Bool)) (nt t : Nat) : (cndA ps M nt t).length ≤ ps.length :=
  Nat.le_trans (List.length_filter_le _ _) (offs_len _ _ _)
theorem claT_len {ps : List GProd} {M : List (List Bool)} {nt : Nat} : ∀ t, (claT ps M nt t).length ≤ t * ps.length
  | 0 => by simp [claT]
  | t + 1 => by
    have := claT_len (ps := ps) (M := M) (nt := nt) t
    have h2 := cls_len (nt := nt) (t := t) (l := cndA ps M nt t)
    have h3 := cndA_len ps M nt t
    rw [claT, List.length_append, Nat.succ_mul]; omega
theorem claN_len {ps : List GProd} {M : List (List Bool)} {tn : Nat} : ∀ n, (claN ps M tn n).length ≤ n * ((tn + 1) * ps.length)
  | 0 => by simp [claN]
  | n + 1 => by
    have := claN_len (ps := ps) (M := M) (tn := tn) n
    have h2 := claT_len (ps := ps) (M := M) (nt := n) (tn + 1)
    rw [claN, List.length_append, Nat.succ_mul]; omega

/-- What a clash is. -/
def ClOk (ps : List GProd) (M : List (List Bool)) (tn n : Nat) (x : GCl) : Prop := ∃ k t : Nat, x.nt = k ∧ k < n ∧ x.tok = t ∧ t < tn + 1 ∧ ∃ l, cndA ps M k t = x.a :: l ∧ x.b ∈ l
theorem claT_mem {ps : List GProd} {M : List (List Bool)} {nt : Nat} {x : GCl} : ∀ {t}, x ∈ claT ps M nt t → ∃ t' : Nat, x.nt = nt ∧ x.tok = t' ∧ t' < t ∧ ∃ l, cndA ps M nt t' = x.a :: l ∧ x.b ∈ l
  | 0, h => by simp [claT] at h
  | t + 1, h => by
    rw [claT] at h
    rcases List.mem_append.1 h with h | h
    · obtain ⟨t', h1, h2, h3, h4⟩ := claT_mem h
      exact ⟨t', h1, h2, by omega, h4⟩
    · cases e : cndA ps M nt t with
      | nil => rw [e] at h; simp [cls] at h
      | cons a l =>
        rw [e, cls] at h
        obtain ⟨b, hb, rfl⟩ := List.mem_map.1 h
        exact ⟨t, rfl, rfl, by omega, l, e, hb⟩
theorem claN_mem {ps : List GProd} {M : List (List Bool)} {tn : Nat} {x : GCl} : ∀ {n}, x ∈ claN ps M tn n → ClOk ps M tn n x
  | 0, h => by simp [claN] at h
  | n + 1, h => by
    rw [claN] at h
    rcases List.mem_append.1 h with h | h
    · obtain ⟨k, t, h1, h2, h3, h4, h5⟩ := claN_mem h
      exact ⟨k, t, h1, by omega, h3, h4, h5⟩
    · obtain ⟨t, h1, h2, h3, h4⟩ := claT_mem h
      exact ⟨n, t, h1, by omega, h2, h3, h4⟩
theorem cndA_up (ps : List GProd) (M : List (List Bool)) (nt t : Nat) : (cndA ps M nt t).Pairwise (· < ·) := (offs_up ps nt ps.length).filter _
/-- One clash is ahead of another. -/
def GCl.lt (x y : GCl) : Prop := x.nt < y.nt ∨ (x.nt = y.nt ∧ (x.tok < y.tok ∨ (x.tok = y.tok ∧ x.b < y.b)))
/-- What a clash names. -/
theorem ClOk.out {ps : List GProd} {M : List (List Bool)} {tn n : Nat} {x : GCl} (h : ClOk ps M tn n x) : ∃ k t a b : Nat, x = ⟨k, t, a, b⟩ ∧ k < n ∧ t < tn + 1 ∧ a < b ∧ b < ps.length ∧ (∃ p, ps[a]? = some p ∧ p.left = k) ∧ (∃ p, ps[b]? = some p ∧ p.left = k) ∧ (cndA ps M k t).headD (-1) = a := by
  obtain ⟨nt, tok, a, b⟩ := x
  obtain ⟨k, t, h1, h2, h3, h4, l, h5, h6⟩ := h
  simp only at h1 h3 h5 h6
  subst h1 h3
  have up := cndA_up ps M k t
  rw [h5, List.pairwise_cons] at up
  have m1 : a ∈ cnd ps M k t ps.length := by rw [cnd_all (offs_len _ _ _), h5]; simp
  have m2 : b ∈ cnd ps M k t ps.length := by rw [cnd_all (offs_len _ _ _), h5]; simp [h6]
  obtain ⟨i, rfl, i1, p, i2, i3⟩ := cnd_mem m1
  obtain ⟨j, rfl, j1, q, j2, j3⟩ := cnd_mem m2
  have := up.1 _ h6
  exact ⟨k, t, i, j, rfl, h2, h4, by omega, j1, ⟨p, i2, i3⟩, ⟨q, j2, j3⟩, by rw [h5]; rfl⟩
end Go.Proofs.Ytaockkmmjinhpaa

/-
  Layer ll: loops behind which less is known; rows of numbers; sets that are written where they were appended to.
-/
namespace Go.Proofs.Ytaockkmmjinhpaa
open Go Go.Am
set_option maxRecDepth 100000
set_option maxHeartbeats 4000000
set_option linter.unusedSimpArgs false
set_option linter.unusedVariables false

/-- What comes next, on a heap of which less is known. -/
class KL where
  k : AE → Frm → Prop
def LessE (e : AE) (f : Frm) [K : KL] : Prop := ∃ h0, Le h0 f.h ∧ K.k e { f with h := h0 }
theorem LessE.mk {e : AE} {s : List AV} {ms : List Nat} {h h0 : Heap} {Q : AE → Frm → Prop} (l : Le h0 h) (w : Q e ⟨s, ms, h0⟩) : @LessE e ⟨s, ms, h⟩ ⟨Q⟩ := ⟨h0, l, w⟩
theorem LoopU_whileL {T : TT} {F : Nat → Option Func} {fn : Nat} {ro : Option Nat} {c : Code} {s : List AV} {h : Heap} {Q : AE → Frm → Prop} (I : Nat → List AV → Heap → Prop) (m : Nat) (h0 : I m s h)
    (step : ∀ m s h, I m s h → UP T F fn ro c ⟨s, [], h⟩ (seqK (fun f1 => @AgainK f1 ⟨m, I⟩) fun e f => @LessE e f ⟨Q⟩)) : @LoopU T F ⟨s, [], h⟩ ⟨fn, ro, .loop c, Q⟩ :=
  UC.lessQ (LoopU_while I m h0 step)

theorem flat_ints (xs : List Int) : (xs.map fun x => [AV.int .i64 x]).flatten = xs.map fun x => .int .i64 x := by
  induction xs with
  | nil => rfl
  | cons x xs ih => rw [List.map_cons, List.flatten_cons, ih]; rfl
theorem reps_ints (h : Heap) : ∀ xs : List Int, Reps h xs (xs.map fun x => [AV.int .i64 x])
  | [] => .nil
  | x :: xs => .cons rfl (reps_ints h xs)
/-- Numbers in a block of their own. -/
def Ints (h : Heap) (b : Nat) (xs : List Int) : Prop := b < h.nxt ∧ h.get b = some (.cells (xs.map fun x => .int .i64 x) true)
theorem Ints.upd {h h' : Heap} {b : Nat} {xs : List Int} {S : Nat → Prop} (B : Ints h b xs) (u : Upd S h h') (hS : ¬ S b) : Ints h' b xs := ⟨Nat.lt_of_lt_of_le B.1 u.nxt, (u.get b B.1 hS).trans B.2⟩
theorem Ints.ext {h h' : Heap} {b : Nat} {xs : List Int} (B : Ints h b xs) (e : Ext h h') : Ints h' b xs := B.upd (e.upd fun _ => False) fun f => f
theorem Ints.set {h : Heap} {b : Nat} {xs : List Int} (B : Ints h b xs) (i : Nat) (y : Int) : Ints (h.put b (.cells ((xs.map fun x => AV.int .i64 x).set i (.int .i64 y)) true)) b (xs.set i y) := by
  refine ⟨B.1, ?_⟩
  rw [get_put_self, List.map_set]
theorem Ints.frz {h : Heap} {b n : Nat} {xs : List Int} (B : Ints h b xs) (hn : n = xs.length) : ∃ h', Le h' h ∧ h'.nxt = h.nxt ∧ Lst h' (.slc (some (b, 0)) n (some n) 1) xs ∧ Upd (· = b) h h' := by
  obtain ⟨hb, hg⟩ := B
  have sl : LSlc h (.slc (some (b, 0)) n (some n) 1) xs := LSlc.lit (ls := xs.map fun x => [AV.int .i64 x]) hb hg (flat_ints xs).symm (reps_ints h xs) (by simp [hn]) rfl
  exact ⟨h.frz b, frz_le _ _, by simp, sl.frz, frz_upd rfl⟩
theorem zero_ints (n : Nat) : zeroRow [.int .i64 0] n = (List.replicate n (0 : Int)).map fun x => .int .i64 x := by
  refine List.ext_getElem (by simp [zeroRow]) fun i h1 h2 => ?_
  simp [zeroRow, Nat.mod_one]
theorem mk_ints {K : KH} {h : Heap} {n : Nat} (hn : n ≤ 1000000) (k : K.k (.slc (some (h.nxt, 0)) n (some n) 1) (h.add (.cells ((List.replicate n (0 : Int)).map fun x => .int .i64 x) true))) : @OBk (makeSliceA T 42 (.int .i64 n) (.int .i64 n) h) K := by
  have e : makeSliceA T 42 (.int .i64 n) (.int .i64 n) h = some (.slc (some (h.nxt, 0)) n (some n) 1, h.add (.cells ((List.replicate n (0 : Int)).map fun x => .int .i64 x) true)) := by
    simp only [makeSliceA, T_42, T_3]
    rw [if_pos (by omega), Int.toNat_natCast, Nat.mul_one, zero_ints]
  exact OBk_of e k
theorem ints_new {h : Heap} {n : Nat} : Ints (h.add (.cells ((List.replicate n (0 : Int)).map fun x => .int .i64 x) true)) h.nxt (List.replicate n 0) := ⟨by simp, get_add_self⟩

theorem reps_bools {h : Heap} : ∀ {bs : List Bool} {ls : List (List AV)}, Reps h bs ls → ls = bs.map fun b => [AV.bool b]
  | _, _, .nil => rfl
  | _, _, .cons a r => by rw [List.map_cons, ← reps_bools r]; exact congrArg (· :: _) a
/-- A set that was appended to is written. -/
theorem bset {m : Nat} {h : Heap} {v : AV} {xs : List Bool} (S : LFresh m h v xs) (hx : 0 < xs.length) : ∃ b o cs, v = .slc (some (b, o)) xs.length none 1 ∧ m ≤ b ∧ b < h.nxt ∧ h.get b = some (.cells cs true) ∧ o + xs.length ≤ cs.length ∧
    (∀ i, i < xs.length → cs[o + i * 1]? = some (.bool (xs.getD i false))) ∧ ∀ i y, i < xs.length → LFresh m (h.put b (.cells (cs.set (o + i * 1) (.bool y)) true)) v (xs.set i y) := by
  obtain ⟨ls, F, R⟩ := S
  have hl := R.length
  rcases F with ⟨rfl, _⟩ | ⟨b, o, cs, rfl, hm, B⟩
  · simp at hl; omega
  · have hls := reps_bools R
    have hroom := B.room
    have hwin := B.win
    have hsz : Rep.sz Bool = 1 := rfl
    rw [hsz, Nat.mul_one] at hroom
    rw [hsz, Nat.mul_one, hls, flat_bools] at hwin
    rw [List.length_map] at hwin
    have hat : ∀ i, i < xs.length → cs[o + i * 1]? = some (.bool (xs.getD i false)) := fun i hi => by
      have h1 : ((cs.drop o).take xs.length)[i]? = cs[o + i]? := by rw [List.getElem?_take_of_lt hi, List.getElem?_drop]
      rw [Nat.mul_one, ← h1, hwin, List.getElem?_map, List.getD_eq_getElem?_getD, List.getElem?_eq_getElem hi]; rfl
    refine ⟨b, o, cs, by rw [hl]; rfl, hm, B.lt, B.get, by omega, hat, fun i y hi => ?_⟩
    refine ⟨(xs.set i y).map fun b => [AV.bool b], .inr ⟨b, o, cs.set (o + i * 1) (.bool y), by simp [hl], hm, ⟨B.lt, get_put_self, fun l hl => ?_, ?_, ?_⟩⟩, reps_bool _ _⟩
    · obtain ⟨z, _, rfl⟩ := List.mem_map.1 hl; rfl
    · rw [hsz, List.length_map, List.length_set, List.length_set, Nat.mul_one]; omega
    · rw [flat_bools, hsz]
      simp only [List.length_map, List.length_set, Nat.mul_one]
      refine List.ext_getElem? fun j => ?_
      rcases Nat.lt_or_ge j xs.length with hj | hj
      · rw [List.getElem?_take_of_lt hj, List.getElem?_drop, List.getElem?_map, List.getElem?_set, List.getElem?_set]
        by_cases he : i = j
        · subst he
          rw [if_pos rfl, if_pos (by omega), if_pos rfl, if_pos hi]; rfl
        · rw [if_neg (by omega), if_neg he]
          have := hat j hj
          rw [Nat.mul_one] at this
          rw [this, List.getD_eq_getElem?_getD, List.getElem?_eq_getElem hj]; rfl
      · rw [List.getElem?_eq_none (by simp; omega), List.getElem?_eq_none (by simp; omega)]
/-- A list grows by an element: what comes was made anew. -/
theorem gappend1 {α : Type} [Rep α] {K : KH} {m : Nat} {h : Heap} {v x : AV} {t e : Nat} {ti te : TI} {xs : List α} {y : α} (ht : T t = some ti) (hk : ti.kind = .slc e) (he : T e = some te) (hsz : te.size = Rep.sz α) (hb0 : te.bytes ≠ 0) (hb1 : te.bytes ≤ 1048576)
    (s : LGrow m h v xs) (sx : LSlc h x [y]) (hm : m ≤ h.nxt) (hr : (xs.length + 1) * te.bytes ≤ roomA)
    (k : ∀ v' h', LFresh m h' v' (xs ++ [y]) → Upd (fun b => v.blk = some b) h h' → (∀ b, v'.blk = some b → h.nxt ≤ b) → K.k v' h') :
    @OBk (appendA T t v x h) K := by
  refine lappend ht hk he hsz hb0 hb1 s.own sx hm hr fun v' h' n1 g1 o1 c1 p1 => ?_
  rcases c1 with ⟨h1, _⟩ | ⟨L, b⟩
  · cases h1
  · exact k _ _ L ⟨n1, fun b hb hne => g1 b hb hne, p1.frz⟩ fun c e => b c e

/-- What is reckoned of a row, so far. -/
def parR (g : Gm) (fo : List (List Bool)) (p : GProd) (j : Nat) : List Bool := (List.range (g.toks.length + 1)).map fun t => if t < j then meanL g fo p t else (rowL g p.right).1.getD t false
theorem parR_len {g : Gm} {fo : List (List Bool)} {p : GProd} {j : Nat} : (parR g fo p j).length = g.toks.length + 1 := by simp [parR]
theorem range_map_getD {α : Type} {n i : Nat} {f : Nat → α} {d : α} (hi : i < n) : ((List.range n).map f).getD i d = f i := by
  rw [List.getD_eq_getElem?_getD, List.getElem?_map, List.getElem?_range hi]; rfl
theorem parR_zero {g : Gm} {fo : List (List Bool)} {p : GProd} : (rowL g p.right).1 ++ [false] = parR g fo p 0 := by
  have hl := rowL_len g p.right
  refine List.ext_getElem? fun i => ?_
  rw [parR, List.getElem?_map]
  rcases Nat.lt_trichotomy i g.toks.length with h | h | h
  · rw [List.getElem?_append_left (by omega), List.getElem?_range (by omega), Option.map_some, if_neg (by omega), List.getD_eq_getElem?_getD, List.getElem?_eq_getElem (by omega)]; rfl
  · rw [List.getElem?_append_right (by omega), List.getElem?_range (by omega), Option.map_some, if_neg (by omega), getD_or (by omega)]
    simp [hl, h]
  · rw [List.getElem?_eq_none (by simp; omega), List.getElem?_eq_none (by simp; omega)]; rfl
theorem parR_succ {g : Gm} {fo : List (List Bool)} {p : GProd} {j : Nat} : (parR g fo p j).set j (meanL g fo p j) = parR g fo p (j + 1) := by
  refine List.ext_getElem? fun i => ?_
  rw [List.getElem?_set, parR, parR, List.getElem?_map, List.getElem?_map]
  by_cases h : j = i
  · subst h
    rw [if_pos rfl]
    rcases Nat.lt_or_ge j (g.toks.length + 1) with h2 | h2
    · rw [if_pos (by simp; omega), List.getElem?_range h2, Option.map_some, if_pos (by omega)]
    · rw [if_neg (by simp; omega), List.getElem?_eq_none (by simp; omega)]; rfl
  · rw [if_neg h]
    rcases Nat.lt_or_ge i (g.toks.length + 1) with h2 | h2
    · rw [List.getElem?_range h2, Option.map_some, Option.map_some]
      by_cases h3 : i < j
      · rw [if_pos h3, if_pos (by omega)]
      · rw [if_neg h3, if_neg (by omega)]
    · rw [List.getElem?_eq_none (by simp; omega)]; rfl
theorem parR_all {g : Gm} {fo : List (List Bool)} {p : GProd} : parR g fo p (g.toks.length + 1) = meanR g fo p := by
  refine List.map_congr_left fun t ht => ?_
  rw [if_pos (List.mem_range.1 ht)]
theorem parR_at {g : Gm} {fo : List (List Bool)} {p : GProd} {j : Nat} (hj : j < g.toks.length + 1) : (parR g fo p j).getD j false = (rowL g p.right).1.getD j false := by
  rw [parR, range_map_getD hj, if_neg (by omega)]

/-- Numbers, so far: a function's, and something further on. -/
def parI (n : Nat) (f : Nat → Int) (j : Nat) : List Int := (List.range n).map fun t => if t < j then f t else 0
theorem parI_len {n j : Nat} {f : Nat → Int} : (parI n f j).length = n := by simp [parI]
theorem parI_zero {n : Nat} {f : Nat → Int} : List.replicate n 0 = parI n f 0 := by
  refine List.ext_getElem (by simp [parI]) fun i h1 h2 => ?_
  simp [parI]
theorem parI_succ {n j : Nat} {f : Nat → Int} : (parI n f j).set j (f j) = parI n f (j + 1) := by
  refine List.ext_getElem? fun i => ?_
  rw [List.getElem?_set, parI, parI, List.getElem?_map, List.getElem?_map]
  by_cases h : j = i
  · subst h
    rw [if_pos rfl]
    rcases Nat.lt_or_ge j n with h2 | h2
    · rw [if_pos (by simp; omega), List.getElem?_range h2, Option.map_some, if_pos (by omega)]
    · rw [if_neg (by simp; omega), List.getElem?_eq_none (by simp; omega)]; rfl
  · rw [if_neg h]
    rcases Nat.lt_or_ge i n with h2 | h2
    · rw [List.getElem?_range h2, Option.map_some, Option.map_some]
      by_cases h3 : i < j
      · rw [if_pos h3, if_pos (by omega)]
      · rw [if_neg h3, if_neg (by omega)]
    · rw [List.getElem?_eq_none (by simp; omega)]; rfl
theorem parI_all {n : Nat} {f : Nat → Int} : parI n f n = (List.range n).map f := by
  refine List.map_congr_left fun t ht => ?_
  rw [if_pos (List.mem_range.1 ht)]

end Go.Proofs.Ytaockkmmjinhpaa

/-
  Layer ll: the table.
-/
namespace Go.Proofs.Ytaockkmmjinhpaa
open Go Go.Am
set_option maxRecDepth 100000
set_option maxHeartbeats 4000000
set_option linter.unusedSimpArgs false
set_option linter.unusedVariables false

theorem Table_uf {h : Heap} {tv nv pv : AV} {g : Gm} (lt : Lst h tv g.toks) (sn : Lst h nv g.nts) (sp : Lst h pv g.prods) (M : MayG g) : UF T F 50 [.agg [tv, nv, pv]] h fun v' h' => Ext h h' ∧ ∃ fo w1 w2, FolOk g fo ∧ v' = .tup [w1, w2] ∧
    Lst h' w1 (tabC g.prods (g.prods.map (meanR g fo)) g.toks.length g.nts.length) ∧ Lst h' w2 (claN g.prods (g.prods.map (meanR g fo)) g.toks.length g.nts.length) := by
  obtain ⟨ta, tn, tc, tz, rfl, htn⟩ := lt.form
  obtain ⟨na, nn, nc, nz, rfl, hnn⟩ := sn.form
  obtain ⟨pa, pn, pc, pz, rfl, hpn⟩ := sp.form
  refine UF.genq fun Q hQ => UF.of (F_50) (c := _) rfl ?_
  unfold Try.f50
  simp only [List.length, Nat.reduceSub, Nat.reduceAdd, List.replicate, List.cons_append, List.nil_append]
  simp (disch := omega) only [go_sem, seval]
  have e1 : Ext h (h.add (.cells [.slc ta tn tc tz, .slc na nn nc nz, .slc pa pn pc pz] true)) := Ext.add _ _
  have g1 : (h.add (.cells [.slc ta tn tc tz, .slc na nn nc nz, .slc pa pn pc pz] true)).get h.nxt = some (.cells [.slc ta tn tc tz, .slc na nn nc nz, .slc pa pn pc pz] true) := get_add_self
  have n1 : (h.add (.cells [.slc ta tn tc tz, .slc na nn nc nz, .slc pa pn pc pz] true)).nxt = h.nxt + 1 := by simp
  generalize (h.add (.cells [.slc ta tn tc tz, .slc na nn nc nz, .slc pa pn pc pz] true)) = h1 at *
  have hnl := M.nl
  have htl := M.tl
  have hpl := M.pl
  refine callV_ofU F_28 rfl ((May_uf (lt.ext e1) (sn.ext e1) (sp.ext e1) M).mono ?_)
  rintro v2 h2 ⟨e2, rfl⟩
  simp (disch := omega) only [go_sem, seval]
  have g2 := (e2.get _ (by omega)).trans g1
  have hn2 := e2.nxt
  have e12 := e1.trans e2
  simp (disch := omega) only [go_sem, seval, g2]
  refine callV_ofU F_40 rfl ((Follow_uf (lt.ext e12) (sn.ext e12) (sp.ext e12) M).mono ?_)
  rintro v3 h3 ⟨e3, ob, bl, fo, rfl, tb, FO, hob, hbl⟩
  simp (disch := omega) only [go_sem, seval]
  have g3 := (e3.get _ (by omega)).trans g2
  have hn3 := e3.nxt
  have e13 := e12.trans e3
  have hFr := FO.rows
  have hobl := tb.lt
  simp (disch := omega) only [go_sem, seval, g3]
  refine LoopU_whileL (fun m st hh => ∃ (i : Nat) (mv : AV), i ≤ g.prods.length ∧ m = g.prods.length - i ∧ Ext h3 hh ∧ LFresh h3.nxt hh mv ((g.prods.take i).map (meanR g fo)) ∧
      Keep st 135 [(1, .ptr (some (h.nxt, 0))), (2, .slc none 0 (some 0) 0), (3, .slc none 0 (some 0) 0), (4, .slc (some (ob, 0)) g.nts.length (some g.nts.length) 1), (5, mv), (23, .slc pa pn pc pz), (24, .int .i64 (pn : Nat)), (25, .int .i64 (i : Nat))]) g.prods.length
    ⟨0, _, by omega, by omega, Ext.refl _, LFresh.nil, rfl, by simp [Has]⟩ ?_
  rintro m st hh ⟨i, mv, hi, rfl, eh, O, hk⟩
  obtain ⟨oa, on, oc, oz, rfl, hon⟩ := O.form
  rw [hk.eq]
  obtain ⟨k1, k2, k3, k4, k5, k23, k24, k25, -⟩ := hk.2
  simp only [slotsFrom, Nat.reduceAdd] at k1 k2 k3 k4 k5 k23 k24 k25 ⊢
  simp only [k1, k2, k3, k4, k5, k23, k24, k25]
  have hnh := eh.nxt
  have gh := (eh.get _ (by omega)).trans g3
  by_cases hlt : (i : Int) < (pn : Int)
  · have hil : i < g.prods.length := by omega
    obtain ⟨b1, o1, cs1, l1, rfl, rfl, hb1, hg1, ⟨ra, xa, rfl, sr, sx⟩, hr1, ht1, hc1⟩ := ((sp.ext e13).ext eh).at_ (i := i) (x := g.prods[i]) (List.getElem?_eq_getElem hil) (k := 3) rfl
    have htk : (g.prods.take (i + 1)).map (meanR g fo) = (g.prods.take i).map (meanR g fo) ++ [meanR g fo g.prods[i]] := by rw [List.take_add_one, List.getElem?_eq_getElem hil, Option.toList_some, List.map_append]; rfl
    have hpi := List.getElem?_eq_getElem hil
    have hpm := List.getElem_mem hil
    obtain ⟨⟨q1, q2⟩, q3, q4⟩ := M.pr g.prods[i] hpm
    generalize g.prods[i] = p at *
    obtain ⟨ra, rn, rc, rz, rfl, hrn⟩ := sr.form
    obtain ⟨xa, xn, xc, xz, rfl, hxn⟩ := sx.form
    obtain ⟨k, hk0⟩ : ∃ k : Nat, p.left = k := ⟨p.left.toNat, by omega⟩
    rw [hk0] at ht1
    have e4 : Ext hh ((hh.add (.cells [.int .i64 0, .slc none 0 (some 0) 0, .slc none 0 (some 0) 0] true)).put hh.nxt (.cells [.int .i64 (k : Nat), .slc ra rn rc rz, .slc xa xn xc xz] true)) := (Ext.add _ _).put (Nat.le_refl _)
    have g4 : ((hh.add (.cells [.int .i64 0, .slc none 0 (some 0) 0, .slc none 0 (some 0) 0] true)).put hh.nxt (.cells [.int .i64 (k : Nat), .slc ra rn rc rz, .slc xa xn xc xz] true)).get hh.nxt = some (.cells [.int .i64 (k : Nat), .slc ra rn rc rz, .slc xa xn xc xz] true) := get_put_self
    have n4 : ((hh.add (.cells [.int .i64 0, .slc none 0 (some 0) 0, .slc none 0 (some 0) 0] true)).put hh.nxt (.cells [.int .i64 (k : Nat), .slc ra rn rc rz, .slc xa xn xc xz] true)).nxt = hh.nxt + 1 := by simp
    have gh4 := (e4.get h.nxt (by omega)).trans gh
    simp (disch := omega) only [go_sem, seval, hlt, hg1, hr1, ht1, g4, gh4, Int.toNat_natCast]
    generalize ((hh.add (.cells [.int .i64 0, .slc none 0 (some 0) 0, .slc none 0 (some 0) 0] true)).put hh.nxt (.cells [.int .i64 (k : Nat), .slc ra rn rc rz, .slc xa xn xc xz] true)) = h4 at *
    have eh4 := (e13.trans eh).trans e4
    refine callV_ofU F_41 rfl ((Row_uf (lt.ext eh4) (sn.ext eh4) (sp.ext eh4) (sr.ext e4) M q4 (by omega)).mono ?_)
    rintro v5 h5 ⟨e5, w, rfl, L5, wb, rfl⟩
    simp (disch := omega) only [go_sem, seval]
    have hn5 := e5.nxt
    have hrl := rowL_len g p.right
    refine gappend1 (m := h3.nxt) (xs := (rowL g p.right).1) (y := false) T_73 rfl T_4 rfl (by decide) (by decide) (.inr ⟨by omega, L5.ext (Ext.add _ _), _, _, by rw [hrl]⟩) (LSlc.lit (b := h5.nxt) (ls := [[.bool false]]) (by simp) get_add_self rfl (Reps.one (x := false) rfl) rfl rfl) (by simp; omega) (by simp [roomA]; omega) ?_
    intro v6 h6 R6 u6 b6
    rw [parR_zero (fo := fo)] at R6
    have e56 : Ext h5 h6 := ((Ext.add _ _).upd fun _ => False).trans' u6 (fun b e hb => by simp [AV.blk] at e) |>.ext fun b hb f => f
    have hn6 := u6.nxt
    simp only [Heap.add_nxt] at hn6
    have e46 := e5.trans e56
    have g6 := (e46.get hh.nxt (by omega)).trans g4
    have tb6 := ((tb.ext eh).ext e4).ext e46
    have gO := tb6.get
    have hkl : k < fo.length := by rw [hFr.len]; omega
    have hkb : k < bl.length := by rw [tb6.len]; exact hkl
    have cO : (bl.map fun b => AV.slc (some (b, 0)) (g.toks.length + 1) (some (g.toks.length + 1)) 1)[k * 1]? = some (.slc (some (bl[k], 0)) (g.toks.length + 1) (some (g.toks.length + 1)) 1) := by rw [Nat.mul_one, List.getElem?_map, List.getElem?_eq_getElem hkb]; rfl
    obtain ⟨hfl, Bf⟩ := tb.row k bl[k] fo[k] (List.getElem?_eq_getElem hkb) (List.getElem?_eq_getElem hkl)
    have hme : ∀ j, meanL g fo p j = ((rowL g p.right).1.getD j false || ((rowL g p.right).2 && fo[k].getD j false)) := fun j => by
      unfold meanL
      rw [hk0, Int.toNat_natCast, List.getD_eq_getElem?_getD (l := fo), List.getElem?_eq_getElem hkl]; rfl
    generalize bl[k] = kb at *
    generalize fo[k] = fr at *
    have q5 : (k : Int) < ((g.nts.length : Nat) : Int) := by omega
    have hkb3 := Bf.2.1
    obtain ⟨vb, vo, vcs, rfl, hvb, _⟩ := bset R6 (by rw [parR_len]; omega)
    have hvb5 := b6 vb rfl
    simp only [Heap.add_nxt] at hvb5
    rw [parR_len] at R6 ⊢
    obtain ⟨nu, hnu⟩ : ∃ nu, nu = (rowL g p.right).2 := ⟨_, rfl⟩
    rw [← hnu] at hme ⊢
    simp (disch := omega) only [go_sem, seval, g6, q5, gO, cO, Int.toNat_natCast]
    refine LoopU_whileL (fun m st hx => ∃ (j : Nat), j ≤ g.toks.length + 1 ∧ m = g.toks.length + 1 - j ∧ Upd (· = vb) h6 hx ∧ LFresh h3.nxt hx (.slc (some (vb, vo)) (g.toks.length + 1) none 1) (parR g fo p j) ∧
        Keep st 135 [(1, .ptr (some (h.nxt, 0))), (2, .slc none 0 (some 0) 0), (3, .slc none 0 (some 0) 0), (4, .slc (some (ob, 0)) g.nts.length (some g.nts.length) 1), (5, .slc oa on oc oz), (8, .slc (some (vb, vo)) (g.toks.length + 1) none 1), (9, .bool nu), (23, .slc (some (b1, o1)) pn pc 3), (24, .int .i64 (pn : Nat)), (25, .int .i64 (i : Nat)),
          (43, .slc (some (kb, 0)) (g.toks.length + 1) (some (g.toks.length + 1)) 1), (44, .int .i64 ((g.toks.length + 1 : Nat))), (45, .int .i64 (j : Nat))]) (g.toks.length + 1)
      ⟨0, by omega, by omega, Upd.refl _ _, R6, rfl, by simp [Has]⟩ ?_
    clear hk k1 k2 k3 k4 k5 k23 k24 k25
    rintro m st hx ⟨j, hj, rfl, ux, R, hk⟩
    rw [hk.eq]
    obtain ⟨k1, k2, k3, k4, k5, k8, k9, k23, k24, k25, k43, k44, k45, -⟩ := hk.2
    simp only [slotsFrom, Nat.reduceAdd] at k1 k2 k3 k4 k5 k8 k9 k23 k24 k25 k43 k44 k45 ⊢
    simp only [k1, k2, k3, k4, k5, k8, k9, k23, k24, k25, k43, k44, k45]
    have hnx := ux.nxt
    by_cases hltj : (j : Int) < ((g.toks.length + 1 : Nat) : Int)
    · have hjl : j < g.toks.length + 1 := by omega
      have gF := (ux.get kb (by omega) (by omega)).trans ((((eh.trans e4).trans e46).get kb (by omega)).trans Bf.2.2)
      have cF : (fr.map AV.bool)[j * 1]? = some (.bool (fr.getD j false)) := by rw [Nat.mul_one, List.getElem?_map, List.getD_eq_getElem?_getD, List.getElem?_eq_getElem (by omega)]; rfl
      obtain ⟨vb', vo', cs, ev, _, hvx, gV, hroom, hcs, hset⟩ := bset R (by rw [parR_len]; omega)
      simp only [AV.slc.injEq, Option.some.injEq, Prod.mk.injEq] at ev
      obtain ⟨⟨rfl, rfl⟩, _⟩ := ev
      rw [parR_len] at hroom hcs hset
      have cV := hcs j hjl
      rw [parR_at hjl] at cV
      have hst := hset j (meanL g fo p j) hjl
      rw [parR_succ, hme j] at hst
      have hrm : vo + j * 1 + 1 ≤ cs.length := by omega
      simp (disch := omega) only [go_sem, seval, hltj, gF, cF, gV, cV, hrm, Int.toNat_natCast]
      generalize (rowL g p.right).1.getD j false = x at *
      generalize fr.getD j false = y at *
      have uP : ∀ z, Upd (· = vb) hx (hx.put vb (.cells (cs.set (vo + j * 1) (.bool z)) true)) := fun z => Upd.put _ rfl fun cs e => by rw [gV] at e; simp at e
      cases x <;> cases nu
      all_goals
        simp (disch := omega) only [go_sem, seval, hltj, gF, cF, gV, cV, hrm, Int.toNat_natCast]
        exact AgainK.mk (g.toks.length + 1 - (j + 1)) (by simp only; omega) ⟨j + 1, by omega, rfl, ux.trans (uP _), hst, rfl, by simp [Has]⟩
    · have hje : j = g.toks.length + 1 := by omega
      subst hje
      simp (disch := omega) only [go_sem, seval, hltj]
      rw [parR_all] at R
      obtain ⟨hf, lf, nf, Lf, uf⟩ := R.frz
      refine LessE.mk lf ?_
      have O' : LFresh h3.nxt hf (.slc oa on oc oz) ((g.prods.take i).map (meanR g fo)) := (((O.ext e4).ext e46).upd ux fun b hb e2 e => by have := O.lt e2; omega).upd uf fun b hb e2 e => by have := O.lt e2; have := e.2; simp [AV.blk] at this; omega
      simp (disch := omega) only [go_sem, seval]
      refine fappend (m := h3.nxt) (xs := (g.prods.take i).map (meanR g fo)) (y := meanR g fo p) T_74 rfl T_73 rfl (by decide) (by decide) (O'.ext (Ext.add _ _)) (LSlc.lit (b := hf.nxt) (ls := [[.slc (some (vb, vo)) (g.toks.length + 1) none 1]]) (by simp) get_add_self rfl (Reps.one (x := meanR g fo p) ⟨_, rfl, Lf.ext (Ext.add _ _)⟩) rfl rfl) (by simp; omega) (by rw [List.length_map, List.length_take]; simp [roomA]; omega) ?_
      intro v7 h7 O7 u7 b7
      simp (disch := omega) only [go_sem, seval]
      exact AgainK.mk (g.prods.length - (i + 1)) (by simp only; omega) ⟨i + 1, v7, by omega, rfl, ((((((eh.trans e4).trans e46).upd (h3.nxt ≤ ·)).trans' ux fun b e hb => by omega).trans' uf fun b e hb => e.1).trans ((Ext.add _ _).upd _)).trans' u7 (fun b e hb => O'.blk e) |>.ext fun b hb => by omega, by rw [htk]; exact O7, rfl, by simp [Has]⟩
  · simp (disch := omega) only [go_sem, seval, hlt]
    have hie : i = g.prods.length := by omega
    subst hie
    rw [List.take_length] at O
    obtain ⟨h4, l4, n4, L4, u4⟩ := O.frz
    refine LessE.mk l4 ?_
    have e34 : Ext h3 h4 := ((eh.upd (h3.nxt ≤ ·)).trans' u4 fun b e hb => e.1).ext fun b hb => by omega
    have hn4 := e34.nxt
    have g4 := (e34.get _ (by omega)).trans g3
    have e14 := e13.trans e34
    clear u4 l4 O gh eh hk k1 k2 k3 k4 k5 k23 k24 k25 hnh n4
    obtain ⟨MM, hMM⟩ : ∃ MM, MM = g.prods.map (meanR g fo) := ⟨_, rfl⟩
    rw [← hMM] at L4
    have hMl : MM.length = g.prods.length := by rw [hMM, List.length_map]
    have hMr : ∀ r ∈ MM, r.length = g.toks.length + 1 := fun r hr => by
      rw [hMM] at hr
      obtain ⟨p, _, rfl⟩ := List.mem_map.1 hr
      simp [meanR]
    simp (disch := omega) only [go_sem, seval, g4]
    refine LoopU_while (fun m st hh => ∃ (k : Nat) (wv cv : AV), k ≤ g.nts.length ∧ m = g.nts.length - k ∧ Ext h4 hh ∧ LFresh h4.nxt hh wv (tabC g.prods MM g.toks.length k) ∧ LFresh h4.nxt hh cv (claN g.prods MM g.toks.length k) ∧ (∀ b, wv.blk = some b → cv.blk ≠ some b) ∧
        Keep st 135 [(1, .ptr (some (h.nxt, 0))), (2, wv), (3, cv), (5, .slc oa on oc oz), (71, .int .i64 (nn : Nat)), (72, .int .i64 (k : Nat))]) g.nts.length
      ⟨0, _, _, by omega, by omega, Ext.refl _, LFresh.nil, LFresh.nil, by simp [AV.blk], rfl, by simp [Has]⟩ ?_
    rintro m st hh ⟨k, wv, cv, hk0, rfl, eh, W, C, hsep, hk⟩
    obtain ⟨wa, wn, wc, wz, rfl, hwn⟩ := W.form
    obtain ⟨ca, cn, cc, cz, rfl, hcn⟩ := C.form
    rw [hk.eq]
    obtain ⟨k1, k2, k3, k5, k71, k72, -⟩ := hk.2
    simp only [slotsFrom, Nat.reduceAdd] at k1 k2 k3 k5 k71 k72 ⊢
    simp only [k1, k2, k3, k5, k71, k72]
    have hnh := eh.nxt
    have gh := (eh.get _ (by omega)).trans g4
    by_cases hlt2 : (k : Int) < (nn : Int)
    · simp (disch := omega) only [go_sem, seval, hlt2, gh]
      have hkn : k < g.nts.length := by omega
      rw [show ((tn : Int) + 1) = ((tn + 1 : Nat) : Int) by omega]
      refine mk_ints (by omega) ?_
      have e5 : Ext hh (hh.add (.cells ((List.replicate (tn + 1) (0 : Int)).map fun x => .int .i64 x) true)) := Ext.add _ _
      have I5 := ints_new (h := hh) (n := tn + 1)
      have n5 : (hh.add (.cells ((List.replicate (tn + 1) (0 : Int)).map fun x => .int .i64 x) true)).nxt = hh.nxt + 1 := by simp
      obtain ⟨f, hf⟩ : ∃ f : Nat → Int, f = fun t => (cndA g.prods MM k t).headD (-1) := ⟨_, rfl⟩
      generalize (hh.add (.cells ((List.replicate (tn + 1) (0 : Int)).map fun x => .int .i64 x) true)) = h5 at *
      rw [parI_zero (f := f)] at I5
      obtain ⟨r, hr⟩ : ∃ r, r = hh.nxt := ⟨_, rfl⟩
      rw [← hr] at I5 ⊢
      have hWr : ∀ b, (AV.slc wa wn wc wz).blk = some b → b < r := fun b e => by have := W.lt e; omega
      have hCr : ∀ b, (AV.slc ca cn cc cz).blk = some b → b < r := fun b e => by have := C.lt e; omega
      have W5 := W.ext e5
      have C5 := C.ext e5
      simp (disch := omega) only [go_sem, seval]
      refine LoopU_whileL (fun m st hx => ∃ (j : Nat) (cv : AV), j ≤ tn + 1 ∧ m = tn + 1 - j ∧ Ext h4 hx ∧ r < hx.nxt ∧ Ints hx r (parI (tn + 1) f j) ∧ LFresh h4.nxt hx (.slc wa wn wc wz) (tabC g.prods MM g.toks.length k) ∧ LFresh h4.nxt hx cv (claN g.prods MM g.toks.length k ++ claT g.prods MM k j) ∧
          (∀ b, cv.blk = some b → b ≠ r) ∧ (∀ b, (AV.slc wa wn wc wz).blk = some b → cv.blk ≠ some b) ∧
          Keep st 135 [(1, .ptr (some (h.nxt, 0))), (2, .slc wa wn wc wz), (3, cv), (5, .slc oa on oc oz), (12, .int .i64 (k : Nat)), (13, .slc (some (r, 0)) (tn + 1) (some (tn + 1)) 1), (71, .int .i64 (nn : Nat)), (72, .int .i64 (k : Nat)), (81, .int .i64 ((tn + 1 : Nat))), (82, .int .i64 (j : Nat))]) (tn + 1)
        ⟨0, _, by omega, by omega, eh.trans e5, by omega, I5, W5, by rw [claT, List.append_nil]; exact C5, fun b e => by have := hCr b e; omega, hsep, rfl, by simp [Has]⟩ ?_
      clear hk k1 k2 k3 k5 k71 k72 I5 W5 C5
      rintro m st hx ⟨j, cv, hj, rfl, ex, hrx, I, Wx, Cx, hcr, hwc, hk⟩
      obtain ⟨va, vn, vc, vz, rfl, hvn⟩ := Cx.form
      rw [hk.eq]
      obtain ⟨k1, k2, k3, k5, k12, k13, k71, k72, k81, k82, -⟩ := hk.2
      simp only [slotsFrom, Nat.reduceAdd] at k1 k2 k3 k5 k12 k13 k71 k72 k81 k82 ⊢
      simp only [k1, k2, k3, k5, k12, k13, k71, k72, k81, k82]
      have gx := (ex.get _ (by omega)).trans g4
      have hnx := ex.nxt
      by_cases hltj : (j : Int) < ((tn + 1 : Nat) : Int)
      · have hjl : j < tn + 1 := by omega
        have gI := I.2
        have hIl : ((parI (tn + 1) f j).map fun x => AV.int .i64 x).length = tn + 1 := by rw [List.length_map, parI_len]
        have hrm : j * 1 + 1 ≤ ((parI (tn + 1) f j).map fun x => AV.int .i64 x).length := by omega
        have I6 := I.set j (-1)
        have u6 : Upd (· = r) hx (hx.put r (.cells (((parI (tn + 1) f j).map fun x => AV.int .i64 x).set j (.int .i64 (-1))) true)) := Upd.put _ rfl fun cs e => by rw [gI] at e; simp at e
        have g6 := (u6.get _ (by omega) (by omega)).trans gx
        have n6 : (hx.put r (.cells (((parI (tn + 1) f j).map fun x => AV.int .i64 x).set j (.int .i64 (-1))) true)).nxt = hx.nxt := by simp
        simp (disch := omega) only [go_sem, seval, hltj, gI, hrm, Int.toNat_natCast]
        rw [Nat.mul_one]
        generalize (hx.put r (.cells (((parI (tn + 1) f j).map fun x => AV.int .i64 x).set j (.int .i64 (-1))) true)) = h6 at *
        have e6 : Ext h4 h6 := ((ex.upd (· = r)).trans u6).ext fun b hb e => by omega
        have W6 : LFresh h4.nxt h6 _ _ := Wx.upd u6 fun b _ e e2 => by have := hWr b e; omega
        have C6 : LFresh h4.nxt h6 _ _ := Cx.upd u6 fun b _ e e2 => hcr b e e2
        simp (disch := omega) only [go_sem, seval, gx]
        refine callV_ofU F_32 rfl ((Offset_uf (n := (k : Nat)) (sp.ext (e14.trans e6)) (by omega)).mono ?_)
        rintro v7 h7 ⟨e7, L7⟩
        simp (disch := omega) only [go_sem, seval]
        obtain ⟨oa2, on2, oc2, oz2, rfl, hon2⟩ := L7.form
        have hn7 := e7.nxt
        obtain ⟨os, hos⟩ : ∃ os, os = offs g.prods (k : Nat) g.prods.length := ⟨_, rfl⟩
        rw [← hos] at L7 hon2
        have hosl : os.length ≤ 16 := by have := offs_len g.prods (k : Nat) g.prods.length; rw [hos]; omega
        have I7 := I6.ext e7
        have W7 := W6.ext e7
        have C7 := C6.ext e7
        simp (disch := omega) only [go_sem, seval]
        refine LoopU_while (fun m st hy => ∃ (i : Nat) (cv : AV), i ≤ os.length ∧ m = os.length - i ∧ Ext h4 hy ∧ r < hy.nxt ∧ Pst h7 hy ∧ Ints hy r ((parI (tn + 1) f j).set j ((cnd g.prods MM k j i).headD (-1))) ∧ LFresh h4.nxt hy (.slc wa wn wc wz) (tabC g.prods MM g.toks.length k) ∧
            LFresh h4.nxt hy cv ((claN g.prods MM g.toks.length k ++ claT g.prods MM k j) ++ cls k j (cnd g.prods MM k j i)) ∧ (∀ b, cv.blk = some b → b ≠ r) ∧ (∀ b, (AV.slc wa wn wc wz).blk = some b → cv.blk ≠ some b) ∧
            Keep st 135 [(1, .ptr (some (h.nxt, 0))), (2, .slc wa wn wc wz), (3, cv), (5, .slc oa on oc oz), (12, .int .i64 (k : Nat)), (13, .slc (some (r, 0)) (tn + 1) (some (tn + 1)) 1), (14, .int .i64 (j : Nat)), (71, .int .i64 (nn : Nat)), (72, .int .i64 (k : Nat)), (81, .int .i64 ((tn + 1 : Nat))), (82, .int .i64 (j : Nat)),
              (90, .slc oa2 on2 oc2 oz2), (91, .int .i64 (on2 : Nat)), (92, .int .i64 (i : Nat))]) os.length
          ⟨0, _, by omega, by omega, e6.trans e7, by omega, Pst.refl _, by simpa [cnd] using I7, W7, by simpa [cnd, cls] using C7, hcr, hwc, rfl, by simp [Has]⟩ ?_
        clear hk k1 k2 k3 k5 k12 k13 k71 k72 k81 k82 I7 W7 C7 I6 W6 C6 I Wx Cx hcr hwc hvn
        rintro m st hy ⟨i, cv, hi, rfl, ey, hry, py, I, Wx, Cx, hcr, hwc, hk⟩
        obtain ⟨va, vn, vc, vz, rfl, hvn⟩ := Cx.form
        rw [hk.eq]
        obtain ⟨k1, k2, k3, k5, k12, k13, k14, k71, k72, k81, k82, k90, k91, k92, -⟩ := hk.2
        simp only [slotsFrom, Nat.reduceAdd] at k1 k2 k3 k5 k12 k13 k14 k71 k72 k81 k82 k90 k91 k92 ⊢
        simp only [k1, k2, k3, k5, k12, k13, k14, k71, k72, k81, k82, k90, k91, k92]
        have hny := ey.nxt
        by_cases hlti : (i : Int) < (on2 : Int)
        · have hil : i < os.length := by omega
          obtain ⟨p, hp⟩ : ∃ p, p = os[i] := ⟨_, rfl⟩
          have hpi : (offs g.prods (k : Nat) g.prods.length)[i]? = some p := by rw [← hos, hp]; exact List.getElem?_eq_getElem hil
          obtain ⟨q, hq, hqn, _⟩ := offs_mem g.prods (k : Nat) g.prods.length p (List.mem_of_getElem? hpi)
          obtain ⟨b3, o3, cs3, l3, rfl, rfl, hb3, hg3, rfl, hr3, ht3, hc3⟩ := (L7.pst py).at_ (i := i) (x := p) (by rw [hp]; exact List.getElem?_eq_getElem hil) (k := 1) rfl
          have c3 : cs3[o3 + i * 1]? = some (.int .i64 p) := hc3 0 (by decide)
          have hqM : q < MM.length := by omega
          obtain ⟨b4, o4, cs4, l4', rfl, rfl, hb4, hg4, ⟨rv, rfl, Lr⟩, hr4, ht4, hc4⟩ := (L4.ext ey).at_ (i := q) (x := MM[q]) (List.getElem?_eq_getElem hqM) (k := 1) rfl
          have c4 : cs4[o4 + q * 1]? = some rv := hc4 0 (by decide)
          have hrq : MM[q].length = g.toks.length + 1 := hMr _ (List.getElem_mem hqM)
          have hmn : mns MM j p = MM[q].getD j false := by
            unfold mns
            rw [hq, Int.toNat_natCast, List.getD_eq_getElem?_getD (l := MM), List.getElem?_eq_getElem hqM]; rfl
          generalize MM[q] = row at *
          obtain ⟨ra, rn, rc, rz, rfl, hrn⟩ := Lr.form
          have hjr : j < row.length := by omega
          obtain ⟨b5, o5, cs5, l5, rfl, rfl, hb5, hg5, rfl, hr5, ht5, hc5⟩ := Lr.at_ (i := j) (x := row[j]) (List.getElem?_eq_getElem hjr) (k := 1) rfl
          have c5 : cs5[o5 + j * 1]? = some (.bool row[j]) := hc5 0 (by decide)
          rw [List.getD_eq_getElem?_getD, List.getElem?_eq_getElem hjr, Option.getD_some] at hmn
          generalize row[j] = y at *
          subst hq
          have s1 : (q : Int) < (on : Int) := by have h0 : on = g.prods.length := (by simpa using hon); omega
          have s2 : (j : Int) < (rn : Int) := by omega
          cases y with
          | false =>
            simp (disch := omega) only [go_sem, seval, hlti, hg3, c3, hg4, c4, hg5, c5, s1, s2, Int.toNat_natCast]
            exact AgainK.mk (os.length - (i + 1)) (by simp only; omega) ⟨i + 1, _, by omega, rfl, ey, hry, py, by rw [cnd_no hpi hmn]; exact I, Wx, by rw [cnd_no hpi hmn]; exact Cx, hcr, hwc, rfl, by simp [Has]⟩
          | true =>
            have gI := I.2
            obtain ⟨hd, hhd⟩ : ∃ hd, hd = (cnd g.prods MM k j i).headD (-1) := ⟨_, rfl⟩
            rw [← hhd] at I gI
            have hXl : ((parI (tn + 1) f j).set j hd).length = tn + 1 := by rw [List.length_set, parI_len]
            have cI : (((parI (tn + 1) f j).set j hd).map fun x => AV.int .i64 x)[j * 1]? = some (.int .i64 hd) := by rw [Nat.mul_one, List.getElem?_map, List.getElem?_set, if_pos rfl, if_pos (by rw [parI_len]; exact hjl)]; rfl
            have hIl : (((parI (tn + 1) f j).set j hd).map fun x => AV.int .i64 x).length = tn + 1 := by rw [List.length_map, hXl]
            have hrm : j * 1 + 1 ≤ (((parI (tn + 1) f j).set j hd).map fun x => AV.int .i64 x).length := by omega
            by_cases hneg : hd < 0
            · obtain ⟨f1, f2⟩ := cls_first hpi hmn (by rw [← hhd]; exact hneg)
              have I2 := I.set j (q : Nat)
              rw [List.set_set] at I2
              have uP : Upd (· = r) hy (hy.put r (.cells ((((parI (tn + 1) f j).set j hd).map fun x => AV.int .i64 x).set j (.int .i64 (q : Nat))) true)) := Upd.put _ rfl fun cs e => by rw [gI] at e; simp at e
              simp (disch := omega) only [go_sem, seval, hlti, hg3, c3, hg4, c4, hg5, c5, s1, s2, gI, cI, hneg, hrm, Int.toNat_natCast]
              rw [Nat.mul_one j]
              exact AgainK.mk (os.length - (i + 1)) (by simp only; omega) ⟨i + 1, _, by omega, rfl, ((ey.upd (· = r)).trans uP).ext fun b hb e => by omega, by simpa using hry, py.trans uP.pst, by rw [f1]; exact I2, Wx.upd uP fun b _ e e2 => by have := hWr b e; omega, by rw [f2]; exact Cx.upd uP fun b _ e e2 => hcr b e e2, hcr, hwc, rfl, by simp [Has]⟩
            · obtain ⟨f1, f2⟩ := cls_more hpi hmn (by rw [← hhd]; exact hneg)
              have hcl : (claN g.prods MM g.toks.length k ++ claT g.prods MM k j ++ cls k j (cnd g.prods MM k j i)).length ≤ 10000 := by
                have x1 := claN_len (ps := g.prods) (M := MM) (tn := g.toks.length) k
                have x2 := claT_len (ps := g.prods) (M := MM) (nt := k) j
                have x3 := cls_len (nt := k) (t := j) (l := cnd g.prods MM k j i)
                have x4 : (cnd g.prods MM k j i).length ≤ g.prods.length := by
                  rw [cnd]
                  exact Nat.le_trans (List.length_filter_le _ _) (Nat.le_trans (by rw [List.length_take]; omega) (offs_len g.prods k g.prods.length))
                have y1 : (g.toks.length + 1) * g.prods.length ≤ 9 * 16 := Nat.mul_le_mul (by omega) (by omega)
                have y2 : k * ((g.toks.length + 1) * g.prods.length) ≤ 8 * (9 * 16) := Nat.mul_le_mul (by omega) y1
                have y3 : j * g.prods.length ≤ 9 * 16 := Nat.mul_le_mul (by omega) (by omega)
                rw [List.length_append, List.length_append]; omega
              simp (disch := omega) only [go_sem, seval, hlti, hg3, c3, hg4, c4, hg5, c5, s1, s2, gI, cI, hneg, Int.toNat_natCast]
              refine fappend (m := h4.nxt) (xs := claN g.prods MM g.toks.length k ++ claT g.prods MM k j ++ cls k j (cnd g.prods MM k j i)) (y := (⟨(k : Nat), (j : Nat), hd, (q : Nat)⟩ : GCl)) T_88 rfl T_104 rfl (by decide) (by decide) (Cx.ext (Ext.add _ _)) (LSlc.lit (b := hy.nxt) (ls := [[.int .i64 (k : Nat), .int .i64 (j : Nat), .int .i64 hd, .int .i64 (q : Nat)]]) (by simp) get_add_self rfl (Reps.one (x := (⟨(k : Nat), (j : Nat), hd, (q : Nat)⟩ : GCl)) rfl) rfl rfl) (by simp; omega) (by simp only [roomA]; omega) ?_
              intro v9 h9 C9 u9 b9
              have eA : Ext hy (hy.add (.cells [.int .i64 (k : Nat), .int .i64 (j : Nat), .int .i64 hd, .int .i64 (q : Nat)] true)) := Ext.add _ _
              simp (disch := omega) only [go_sem, seval]
              exact AgainK.mk (os.length - (i + 1)) (by simp only; omega) ⟨i + 1, v9, by omega, rfl, (((ey.trans eA).upd (h4.nxt ≤ ·)).trans' u9 fun b e hb => Cx.blk e).ext fun b hb => by omega, by have := u9.nxt; simp at this; omega, (py.trans eA.pst).trans u9.pst, by rw [f1, ← hhd]; exact (I.ext eA).upd u9 fun e => hcr _ e rfl, (Wx.ext eA).upd u9 fun b _ e e2 => hwc b e e2, by rw [f2, ← hhd, ← List.append_assoc]; exact C9, fun b e => by have := b9 b e; simp at this; omega, fun b e e2 => by have := b9 b e2; have := Wx.lt e; simp at *; omega, rfl, by simp [Has]⟩
        · have hie : i = os.length := by omega
          rw [cnd_all (by rw [← hos]; omega)] at I Cx
          have hfj : (cndA g.prods MM k j).headD (-1) = f j := by rw [hf]
          rw [hfj, parI_succ] at I
          rw [List.append_assoc, ← claT] at Cx
          simp (disch := omega) only [go_sem, seval, hlti]
          exact AgainK.mk (tn + 1 - (j + 1)) (by simp only; omega) ⟨j + 1, _, by omega, rfl, ey, hry, I, Wx, Cx, hcr, hwc, rfl, by simp [Has]⟩
      · have hje : j = tn + 1 := by omega
        subst hje
        simp (disch := omega) only [go_sem, seval, hltj]
        rw [parI_all] at I
        obtain ⟨h8, l8, n8, L8, u8⟩ := I.frz (n := tn + 1) (by simp)
        refine LessE.mk l8 ?_
        have W8 : LFresh h4.nxt h8 _ _ := Wx.upd u8 fun b _ e e2 => by have := hWr b e; omega
        have C8 : LFresh h4.nxt h8 _ _ := Cx.upd u8 fun b _ e e2 => hcr b e e2
        have hrow : rowC g.prods MM g.toks.length k = (List.range (tn + 1)).map f := by rw [rowC, hf, htn]
        have htab : tabC g.prods MM g.toks.length (k + 1) = tabC g.prods MM g.toks.length k ++ [(List.range (tn + 1)).map f] := by rw [tabC, List.range_succ, List.map_append, List.map_cons, hrow]; rfl
        have htl2 : (tabC g.prods MM g.toks.length k).length = k := by simp [tabC]
        simp (disch := omega) only [go_sem, seval]
        refine fappend (m := h4.nxt) (xs := tabC g.prods MM g.toks.length k) (y := (List.range (tn + 1)).map f) T_87 rfl T_42 rfl (by decide) (by decide) (W8.ext (Ext.add _ _)) (LSlc.lit (b := h8.nxt) (ls := [[.slc (some (r, 0)) (tn + 1) (some (tn + 1)) 1]]) (by simp) get_add_self rfl (Reps.one (x := (List.range (tn + 1)).map f) ⟨_, rfl, L8.ext (Ext.add _ _)⟩) rfl rfl) (by simp; omega) (by rw [htl2]; simp [roomA]; omega) ?_
        intro v9 h9 W9 u9 b9
        simp (disch := omega) only [go_sem, seval]
        exact AgainK.mk (g.nts.length - (k + 1)) (by simp only; omega) ⟨k + 1, v9, _, by omega, rfl, ((((ex.upd (h4.nxt ≤ ·)).trans' u8 fun b e hb => by omega).trans ((Ext.add _ _).upd _)).trans' u9 fun b e hb => W8.blk e).ext fun b hb => by omega, by rw [htab]; exact W9, by rw [claN, ← htn]; rw [← htn] at C8; exact (C8.ext (Ext.add _ _)).upd u9 fun b _ e e2 => hwc b e2 e, fun b e e2 => by have := b9 b e; have := Cx.lt e2; simp at *; omega, rfl, by simp [Has]⟩
    · simp (disch := omega) only [go_sem, seval, hlt2]
      have hke : k = g.nts.length := by omega
      subst hke
      obtain ⟨h5, l5, n5, W5, u5⟩ := W.frz
      obtain ⟨h6, l6, n6, C6, u6⟩ := (C.upd u5 fun b _ e e2 => hsep b e2.2 e).frz
      refine hQ _ _ h6 (l6.trans l5) ⟨((((e14.trans eh).upd (h4.nxt ≤ ·)).trans' u5 fun b e hb => e.1).trans' u6 fun b e hb => e.1).ext fun b hb => by have := e14.nxt; omega, fo, _, _, FO, rfl, ?_, ?_⟩
      · rw [← hMM]; exact W5.pst u6.pst
      · rw [← hMM]; exact C6

end Go.Proofs.Ytaockkmmjinhpaa
