import Derived.Test.YtaockkmmjinhpaaFstS
import Derived.Test.YtaockkmmjinhpaaGramOffset
/-
  Layer ll, plain: which production is meant, where several may be.
-/
namespace Go.Proofs.Ytaockkmmjinhpaa
open Go Go.Am
set_option maxRecDepth 100000
set_option linter.unusedSimpArgs false
set_option linter.unusedVariables false

/-- A clash. -/
structure GCl where
  nt : Int
  tok : Int
  a : Int
  b : Int
instance : Rep GCl := ⟨4, fun _ x cs => cs = [.int .i64 x.nt, .int .i64 x.tok, .int .i64 x.a, .int .i64 x.b], fun e => by rw [e]; rfl, fun e => by rw [e]; rfl, fun e _ => e⟩

/-- May a production be meant by a token? -/
def meanL (g : Gm) (fo : List (List Bool)) (p : GProd) (t : Nat) : Bool := (rowL g p.right).1.getD t false || ((rowL g p.right).2 && (fo.getD p.left.toNat []).getD t false)
def meanR (g : Gm) (fo : List (List Bool)) (p : GProd) : List Bool := (List.range (g.toks.length + 1)).map (meanL g fo p)
def mns (M : List (List Bool)) (t : Nat) (p : Int) : Bool := (M.getD p.toNat []).getD t false
/-- Which productions of a nonterminal may be meant, of its first so many. -/
def cnd (ps : List GProd) (M : List (List Bool)) (nt t i : Nat) : List Int := ((offs ps nt ps.length).take i).filter (mns M t)
def cls (nt t : Nat) : List Int → List GCl
  | [] => []
  | a :: l => l.map fun b => ⟨nt, t, a, b⟩
def cndA (ps : List GProd) (M : List (List Bool)) (nt t : Nat) : List Int := (offs ps nt ps.length).filter (mns M t)
theorem cnd_all {ps : List GProd} {M : List (List Bool)} {nt t i : Nat} (h : (offs ps nt ps.length).length ≤ i) : cnd ps M nt t i = cndA ps M nt t := by
  rw [cnd, List.take_of_length_le h]; rfl
theorem cnd_mem {ps : List GProd} {M : List (List Bool)} {nt t i : Nat} {p : Int} (h : p ∈ cnd ps M nt t i) : ∃ k : Nat, p = k ∧ k < ps.length ∧ ∃ q, ps[k]? = some q ∧ q.left = (nt : Nat) :=
  offs_mem ps nt ps.length p (List.mem_of_mem_take (List.mem_filter.1 h).1)
def rowC (ps : List GProd) (M : List (List Bool)) (tn nt : Nat) : List Int := (List.range (tn + 1)).map fun t => (cndA ps M nt t).headD (-1)
def claT (ps : List GProd) (M : List (List Bool)) (nt : Nat) : Nat → List GCl
  | 0 => []
  | t + 1 => claT ps M nt t ++ cls nt t (cndA ps M nt t)
def claN (ps : List GProd) (M : List (List Bool)) (tn : Nat) : Nat → List GCl
  | 0 => []
  | n + 1 => claN ps M tn n ++ claT ps M n (tn + 1)
def tabC (ps : List GProd) (M : List (List Bool)) (tn n : Nat) : List (List Int) := (List.range n).map (rowC ps M tn)

/-- What a clash is. -/
def ClOk (ps : List GProd) (M : List (List Bool)) (tn n : Nat) (x : GCl) : Prop := ∃ k t : Nat, x.nt = k ∧ k < n ∧ x.tok = t ∧ t < tn + 1 ∧ ∃ l, cndA ps M k t = x.a :: l ∧ x.b ∈ l
theorem cndA_up (ps : List GProd) (M : List (List Bool)) (nt t : Nat) : (cndA ps M nt t).Pairwise (· < ·) := (offs_up ps nt ps.length).filter _
/-- One clash is ahead of another. -/
def GCl.lt (x y : GCl) : Prop := x.nt < y.nt ∨ (x.nt = y.nt ∧ (x.tok < y.tok ∨ (x.tok = y.tok ∧ x.b < y.b)))
/-- What a clash names. -/
theorem ClOk.out {ps : List GProd} {M : List (List Bool)} {tn n : Nat} {x : GCl} (h : ClOk ps M tn n x) : ∃ k t a b : Nat, x = ⟨k, t, a, b⟩ ∧ k < n ∧ t < tn + 1 ∧ a < b ∧ b < ps.length ∧ (∃ p, ps[a]? = some p ∧ p.left = k) ∧ (∃ p, ps[b]? = some p ∧ p.left = k) ∧ (cndA ps M k t).headD (-1) = a := by
  obtain ⟨nt, tok, a, b⟩ := x
  obtain ⟨k, t, h1, h2, h3, h4, l, h5, h6⟩ := h
  simp only at h1 h3 h5 h6
  subst h1 h3
  have up := cndA_up ps M k t
  rw [h5, List.pairwise_cons] at up
  have m1 : a ∈ cnd ps M k t ps.length := by rw [cnd_all (offs_len _ _ _), h5]; simp
  have m2 : b ∈ cnd ps M k t ps.length := by rw [cnd_all (offs_len _ _ _), h5]; simp [h6]
  obtain ⟨i, rfl, i1, p, i2, i3⟩ := cnd_mem m1
  obtain ⟨j, rfl, j1, q, j2, j3⟩ := cnd_mem m2
  have := up.1 _ h6
  exact ⟨k, t, i, j, rfl, h2, h4, by omega, j1, ⟨p, i2, i3⟩, ⟨q, j2, j3⟩, by rw [h5]; rfl⟩
end Go.Proofs.Ytaockkmmjinhpaa

/-
  Layer ll: loops behind which less is known; rows of numbers; sets that are written where they were appended to.
-/
namespace Go.Proofs.Ytaockkmmjinhpaa
open Go Go.Am
set_option maxRecDepth 100000
set_option maxHeartbeats 4000000
set_option linter.unusedSimpArgs false
set_option linter.unusedVariables false

/-- What comes next, on a heap of which less is known. -/
class KL where
  k : AE → Frm → Prop
def LessE (e : AE) (f : Frm) [K : KL] : Prop := ∃ h0, Le h0 f.h ∧ K.k e { f with h := h0 }
theorem LessE.mk {e : AE} {s : List AV} {ms : List Nat} {h h0 : Heap} {Q : AE → Frm → Prop} (l : Le h0 h) (w : Q e ⟨s, ms, h0⟩) : @LessE e ⟨s, ms, h⟩ ⟨Q⟩ := ⟨h0, l, w⟩
theorem LoopU_whileL {T : TT} {F : Nat → Option Func} {fn : Nat} {ro : Option Nat} {c : Code} {s : List AV} {h : Heap} {Q : AE → Frm → Prop} (I : Nat → List AV → Heap → Prop) (m : Nat) (h0 : I m s h)
    (step : ∀ m s h, I m s h → UP T F fn ro c ⟨s, [], h⟩ (seqK (fun f1 => @AgainK f1 ⟨m, I⟩) fun e f => @LessE e f ⟨Q⟩)) : @LoopU T F ⟨s, [], h⟩ ⟨fn, ro, .loop c, Q⟩ :=
  UC.lessQ (LoopU_while I m h0 step)

theorem flat_ints (xs : List Int) : (xs.map fun x => [AV.int .i64 x]).flatten = xs.map fun x => .int .i64 x := by
  induction xs with
  | nil => rfl
  | cons x xs ih => rw [List.map_cons, List.flatten_cons, ih]; rfl
theorem reps_ints (h : Heap) : ∀ xs : List Int, Reps h xs (xs.map fun x => [AV.int .i64 x])
  | [] => .nil
  | x :: xs => .cons rfl (reps_ints h xs)
/-- Numbers in a block of their own. -/
def Ints (h : Heap) (b : Nat) (xs : List Int) : Prop := b < h.nxt ∧ h.get b = some (.cells (xs.map fun x => .int .i64 x) true)
theorem Ints.upd {h h' : Heap} {b : Nat} {xs : List Int} {S : Nat → Prop} (B : Ints h b xs) (u : Upd S h h') (hS : ¬ S b) : Ints h' b xs := ⟨Nat.lt_of_lt_of_le B.1 u.nxt, (u.get b B.1 hS).trans B.2⟩
theorem Ints.ext {h h' : Heap} {b : Nat} {xs : List Int} (B : Ints h b xs) (e : Ext h h') : Ints h' b xs := B.upd (e.upd fun _ => False) fun f => f
theorem Ints.set {h : Heap} {b : Nat} {xs : List Int} (B : Ints h b xs) (i : Nat) (y : Int) : Ints (h.put b (.cells ((xs.map fun x => AV.int .i64 x).set i (.int .i64 y)) true)) b (xs.set i y) := by
  refine ⟨B.1, ?_⟩
  rw [get_put_self, List.map_set]
theorem Ints.frz {h : Heap} {b n : Nat} {xs : List Int} (B : Ints h b xs) (hn : n = xs.length) : ∃ h', Le h' h ∧ h'.nxt = h.nxt ∧ Lst h' (.slc (some (b, 0)) n (some n) 1) xs ∧ Upd (· = b) h h' := by
  obtain ⟨hb, hg⟩ := B
  have sl : LSlc h (.slc (some (b, 0)) n (some n) 1) xs := LSlc.lit (ls := xs.map fun x => [AV.int .i64 x]) hb hg (flat_ints xs).symm (reps_ints h xs) (by simp [hn]) rfl
  exact ⟨h.frz b, frz_le _ _, by simp, sl.frz, frz_upd rfl⟩
/-- What is reckoned of a row, so far. -/
def parR (g : Gm) (fo : List (List Bool)) (p : GProd) (j : Nat) : List Bool := (List.range (g.toks.length + 1)).map fun t => if t < j then meanL g fo p t else (rowL g p.right).1.getD t false
/-- Numbers, so far: a function's, and something further on. -/
def parI (n : Nat) (f : Nat → Int) (j : Nat) : List Int := (List.range n).map fun t => if t < j then f t else 0
end Go.Proofs.Ytaockkmmjinhpaa

/-
  Layer ll: the table.
-/
namespace Go.Proofs.Ytaockkmmjinhpaa
open Go Go.Am
set_option maxRecDepth 100000
set_option maxHeartbeats 4000000
set_option linter.unusedSimpArgs false
set_option linter.unusedVariables false

end Go.Proofs.Ytaockkmmjinhpaa
