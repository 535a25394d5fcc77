/-
  Layer nfa: the builder, and what its functions come to.
-/
import Derived.Test.YtenpjkinpecnfaaRexM
import Derived.KernelRfl
namespace Go.Proofs.Ytenpjkinpecnfaa
open Go Go.Am
set_option maxRecDepth 100000
set_option maxHeartbeats 4000000
set_option linter.unusedSimpArgs false
set_option linter.unusedVariables false

/-- A state. -/
structure St where
  lo : UInt8
  hi : UInt8
  next : Int
  free : List Nat
  fin : Nat
  deriving DecidableEq
/-- A piece of states. -/
structure Prt where
  from_ : Nat
  to_ : Nat
  deriving DecidableEq
instance : Rep Nat := ⟨1, fun _ x cs => cs = [.int .i64 (x : Nat)], fun e => by rw [e]; rfl, fun e => by rw [e]; rfl, fun e _ => e⟩
instance : Rep Prt := ⟨2, fun _ x cs => cs = [.int .i64 x.from_, .int .i64 x.to_], fun e => by rw [e]; rfl, fun e => by rw [e]; rfl, fun e _ => e⟩
instance : Rep St := ⟨5, fun h x cs => ∃ v, cs = [.int .u8 x.lo.toNat, .int .u8 x.hi.toNat, .int .i64 x.next, v, .int .i64 x.fin] ∧ Lst h v x.free, fun ⟨v, e, _⟩ => by rw [e]; rfl, fun ⟨v, e, s⟩ => by
  obtain ⟨a, n, c, z, rfl, _⟩ := s.form; rw [e]; rfl, fun ⟨v, e, s⟩ p => ⟨v, e, s.pst p⟩⟩

/-- A state's cells, its list by its value. -/
def stC (x : St) (v : AV) : List AV := [.int .u8 x.lo.toNat, .int .u8 x.hi.toNat, .int .i64 x.next, v, .int .i64 x.fin]
def stCs : List St → List AV → List (List AV)
  | x :: xs, v :: vs => stC x v :: stCs xs vs
  | _, _ => []
theorem stCs_len : ∀ {xs : List St} {vs : List AV}, vs.length = xs.length → (stCs xs vs).length = xs.length
  | [], [], _ => rfl
  | x :: xs, v :: vs, h => by simp only [stCs, List.length_cons]; rw [stCs_len (by simpa using h)]
  | [], _ :: _, h => by simp at h
  | _ :: _, [], h => by simp at h
theorem stCs_get : ∀ {xs : List St} {vs : List AV} {i : Nat} {x : St} {v : AV}, xs[i]? = some x → vs[i]? = some v → (stCs xs vs)[i]? = some (stC x v)
  | [], _, _, _, _, h, _ => by simp at h
  | _ :: _, [], _, _, _, _, h => by simp at h
  | x :: xs, v :: vs, 0, y, w, h1, h2 => by simp at h1 h2; subst h1; subst h2; rfl
  | x :: xs, v :: vs, i + 1, y, w, h1, h2 => by simp at h1 h2; simpa [stCs] using stCs_get h1 h2
theorem stCs_app : ∀ {xs : List St} {vs : List AV} {ys : List St} {ws : List AV}, vs.length = xs.length → stCs (xs ++ ys) (vs ++ ws) = stCs xs vs ++ stCs ys ws
  | [], [], _, _, _ => rfl
  | x :: xs, v :: vs, ys, ws, h => by simp only [List.cons_append, stCs]; rw [stCs_app (by simpa using h)]
  | [], _ :: _, _, _, h => by simp at h
  | _ :: _, [], _, _, h => by simp at h
theorem stCs_set : ∀ {xs : List St} {vs : List AV} (i : Nat) (x : St) (v : AV), vs.length = xs.length → stCs (xs.set i x) (vs.set i v) = (stCs xs vs).set i (stC x v)
  | [], [], _, _, _, _ => rfl
  | y :: xs, w :: vs, 0, x, v, _ => rfl
  | y :: xs, w :: vs, i + 1, x, v, h => by simp only [List.set_cons_succ, stCs]; rw [stCs_set i x v (by simpa using h)]
  | [], _ :: _, _, _, _, h => by simp at h
  | _ :: _, [], _, _, _, h => by simp at h

/-- A builder's lists: its states', each state's, its pieces'; none of them share a block. -/
structure NbV (h : Heap) (k : Nat) (lv pv : AV) (vs : List AV) (ss : List St) (ps : List Prt) : Prop where
  len : vs.length = ss.length
  l : Fresh (k + 1) h lv 5 (stCs ss vs)
  p : LFresh (k + 1) h pv ps
  f : ∀ (i : Nat) (x : St) (v : AV), ss[i]? = some x → vs[i]? = some v → LFresh (k + 1) h v x.free
  ff : ∀ (i j : Nat) (v w : AV) (b : Nat), i ≠ j → vs[i]? = some v → vs[j]? = some w → v.blk = some b → w.blk ≠ some b
  fl : ∀ (i : Nat) (v : AV) (b : Nat), vs[i]? = some v → v.blk = some b → lv.blk ≠ some b ∧ pv.blk ≠ some b
  pl : ∀ b, pv.blk = some b → lv.blk ≠ some b
/-- Blocks that are none of the builder's, whichever are kept in mind. -/
def NbK (h : Heap) (k : Nat) (K : Nat → Prop) (lv pv : AV) (vs : List AV) : Prop := ∀ b, K b → b < h.nxt ∧ b ≠ k ∧ lv.blk ≠ some b ∧ pv.blk ≠ some b ∧ ∀ v ∈ vs, v.blk ≠ some b
/-- A builder of states, and blocks that it leaves alone. -/
def Nb (h : Heap) (k : Nat) (K : Nat → Prop) (ss : List St) (ps : List Prt) : Prop := k < h.nxt ∧ ∃ lv pv vs, h.get k = some (.cells [lv, pv] true) ∧ NbV h k lv pv vs ss ps ∧ NbK h k K lv pv vs

theorem fresh_lt' {m : Nat} {h : Heap} {v : AV} {sz : Nat} {ls : List (List AV)} (s : Fresh m h v sz ls) {b : Nat} (e : v.blk = some b) : b < h.nxt := by
  rcases s with ⟨_, a, z, rfl, _⟩ | ⟨b', o, cs, rfl, hm, hb⟩
  · cases a <;> simp [AV.blk] at e
  · simp [AV.blk] at e; subst e; exact hb.lt
theorem fresh_keepU {m : Nat} {h h' : Heap} {v : AV} {sz : Nat} {ls : List (List AV)} {S : Nat → Prop} (s : Fresh m h v sz ls) (u : Upd S h h') (hS : ∀ b, m ≤ b → v.blk = some b → ¬ S b) : Fresh m h' v sz ls :=
  s.keep u.nxt fun b h1 h2 h3 => u.get b h2 (hS b h1 h3)
/-- Blocks that are none of them change. -/
theorem NbV.upd {h h' : Heap} {k : Nat} {lv pv : AV} {vs : List AV} {ss : List St} {ps : List Prt} {S : Nat → Prop} (B : NbV h k lv pv vs ss ps) (u : Upd S h h') (hS : ∀ b, k < b → b < h.nxt → (lv.blk = some b ∨ pv.blk = some b ∨ ∃ v ∈ vs, v.blk = some b) → ¬ S b) : NbV h' k lv pv vs ss ps := by
  have lt1 : ∀ b, lv.blk = some b → b < h.nxt := fun b e => fresh_lt' B.l e
  refine ⟨B.len, fresh_keepU B.l u fun b hb e => hS b (by omega) (lt1 b e) (.inl e), B.p.upd u fun b hb e => hS b (by omega) (B.p.lt e) (.inr (.inl e)), fun i x v hx hv => ?_, B.ff, B.fl, B.pl⟩
  have := B.f i x v hx hv
  exact this.upd u fun b hb e => hS b (by omega) (this.lt e) (.inr (.inr ⟨v, List.mem_of_getElem? hv, e⟩))
theorem NbV.blk {h : Heap} {k : Nat} {lv pv : AV} {vs : List AV} {ss : List St} {ps : List Prt} (V : NbV h k lv pv vs ss ps) {b : Nat} (hb : lv.blk = some b ∨ pv.blk = some b ∨ ∃ v ∈ vs, v.blk = some b) : k < b ∧ b < h.nxt := by
  rcases hb with e | e | ⟨v, hv, e⟩
  · have := V.l.blk e
    exact ⟨by omega, fresh_lt' V.l e⟩
  · have := V.p.blk e
    exact ⟨by omega, V.p.lt e⟩
  · obtain ⟨i, hi⟩ := List.getElem?_of_mem hv
    have hii := (List.getElem?_eq_some_iff.1 hi).1
    have L := V.f i _ v (List.getElem?_eq_getElem (by rw [← V.len]; exact hii)) hi
    have := L.blk e
    exact ⟨by omega, L.lt e⟩
/-- Blocks that are kept in mind change, or such as are none of the builder's: it stays. -/
theorem Nb.upd {h h' : Heap} {k : Nat} {K K' S : Nat → Prop} {ss : List St} {ps : List Prt} (B : Nb h k K ss ps) (u : Upd S h h') (hS : ∀ b, S b → b < h.nxt → K b) (hK : ∀ b, K' b → b < h'.nxt ∧ (K b ∨ h.nxt ≤ b)) : Nb h' k K' ss ps := by
  obtain ⟨hk, lv, pv, vs, g, V, N⟩ := B
  have no : ∀ b, b < h.nxt → (b = k ∨ lv.blk = some b ∨ pv.blk = some b ∨ ∃ v ∈ vs, v.blk = some b) → ¬ S b := by
    intro b hb hc hs
    obtain ⟨n1, n2, n3, n4, n5⟩ := N b (hS b hs hb)
    rcases hc with e | e | e | ⟨v, hv, e⟩
    · exact n2 e
    · exact n3 e
    · exact n4 e
    · exact n5 v hv e
  refine ⟨Nat.lt_of_lt_of_le hk u.nxt, lv, pv, vs, (u.get _ hk (no k hk (.inl rfl))).trans g, V.upd u fun b _ hb hc => no b hb (.inr hc), fun b hb => ?_⟩
  obtain ⟨h1, h2⟩ := hK b hb
  rcases h2 with h2 | h2
  · obtain ⟨n1, n2⟩ := N b h2
    exact ⟨h1, n2⟩
  · have nb : ∀ c, (lv.blk = some c ∨ pv.blk = some c ∨ ∃ v ∈ vs, v.blk = some c) → c < h.nxt := fun c hc => (V.blk hc).2
    refine ⟨h1, by omega, fun e => ?_, fun e => ?_, fun v hv e => ?_⟩
    · have := nb b (.inl e); omega
    · have := nb b (.inr (.inl e)); omega
    · have := nb b (.inr (.inr ⟨v, hv, e⟩)); omega
theorem Nb.ext {h h' : Heap} {k : Nat} {K : Nat → Prop} {ss : List St} {ps : List Prt} (B : Nb h k K ss ps) (e : Ext h h') : Nb h' k K ss ps := by
  have B' := B
  obtain ⟨hk, lv, pv, vs, g, V, N⟩ := B'
  exact B.upd (e.upd (fun _ => False)) (fun _ f _ => f.elim) fun b hb => ⟨Nat.lt_of_lt_of_le (N b hb).1 e.nxt, .inl hb⟩
theorem Nb.less {h : Heap} {k : Nat} {K K' : Nat → Prop} {ss : List St} {ps : List Prt} (B : Nb h k K ss ps) (hK : ∀ b, K' b → K b) : Nb h k K' ss ps := by
  obtain ⟨hk, lv, pv, vs, g, V, N⟩ := B
  exact ⟨hk, lv, pv, vs, g, V, fun b hb => N b (hK b hb)⟩

/-- More of a list of our own, which stays one. -/
theorem fappend {α : Type} [Rep α] {K : KH} {m : Nat} {h : Heap} {v x : AV} {t e : Nat} {ti te : TI} {xs ys : List α} (ht : T t = some ti) (hk : ti.kind = .slc e) (he : T e = some te) (hsz : te.size = Rep.sz α) (hb0 : te.bytes ≠ 0) (hb1 : te.bytes ≤ 1048576)
    (s : LFresh m h v xs) (sx : LSlc h x ys) (hm : m ≤ h.nxt) (hr : (xs.length + ys.length) * te.bytes ≤ roomA)
    (k : ∀ v' h', LFresh m h' v' (xs ++ ys) → Upd (fun b => v.blk = some b) h h' → (∀ b, v'.blk = some b → v.blk = some b ∨ h.nxt ≤ b) → K.k v' h') :
    @OBk (appendA T t v x h) K := by
  refine lappend ht hk he hsz hb0 hb1 s.own sx hm hr fun v' h' n1 g1 o1 c1 p1 => ?_
  rcases c1 with ⟨rfl, rfl, rfl⟩ | ⟨L, b⟩
  · exact k _ _ (by simpa using s) (Upd.refl _ _) fun b e => .inl e
  · exact k _ _ L ⟨n1, fun b hb hne => g1 b hb hne, p1.frz⟩ fun c e => .inr (b c e)

/-- A new state. -/
def st0 : St := ⟨1, 0, -1, [], 0⟩
theorem state_uf {h : Heap} {k : Nat} {K : Nat → Prop} {ss : List St} {ps : List Prt} (B : Nb h k K ss ps) (hs : ss.length ≤ 1000000) : UF T F 52 [.ptr (some (k, 0))] h fun v' h' => Upd (¬ K ·) h h' ∧ Nb h' k K (ss ++ [st0]) ps ∧ v' = .int .i64 ss.length := by
  obtain ⟨hk, lv, pv, vs, g, V, N⟩ := B
  obtain ⟨la, lc, lz, rfl⟩ := V.l.slc.form
  rw [stCs_len V.len] at V g N
  refine UF.gen fun Q hQ => UF.of (F_52) (c := _) rfl ?_
  unfold Try.f52
  simp only [List.length, Nat.reduceSub, Nat.reduceAdd, List.replicate, List.cons_append, List.nil_append]
  simp (disch := first | ((try simp only [heapN]) <;> omega) | fail) only [go_sem, seval]
  simp (disch := first | ((try simp only [heapN]) <;> omega) | fail) only [go_sem, seval, g]
  refine append_k (m := k + 1) (sz := 5) (ls := stCs ss vs) (new := [stC st0 (.slc none 0 (some 0) 0)]) T_42 rfl T_117 rfl (by decide) (by decide) ((V.l.ext (Ext.add _ _)).own) (Slc.lit (ls := [stC st0 (.slc none 0 (some 0) 0)]) (by simp [stC])) (by simp [stC]) (by simp [stC, AV.leaf]) (by simp; omega) (by simp [stCs_len V.len, roomA]; omega) ?_
  intro v2 h2 n2 r2 c2
  rcases c2 with ⟨c2, _⟩ | ⟨_, M2, b2⟩
  · simp at c2
  have n2' : h.nxt < h2.nxt := by simp at n2; omega
  have l1 := fun b e => V.l.blk (b := b) e
  have g2 : h2.get k = some (.cells [.slc la ss.length lc lz, pv] true) := by
    rw [r2 k (by simp; omega) (fun e => by have := l1 k e; omega), get_add_lt hk]; exact g
  obtain ⟨va, vc, vz, rfl⟩ := M2.slc.form
  have hM : (stCs ss vs ++ [stC st0 (.slc none 0 (some 0) 0)]).length = ss.length + 1 := by rw [List.length_append, stCs_len V.len]; rfl
  rw [hM] at M2 b2
  rw [hM]
  have u2 : Upd (fun b => (AV.slc la ss.length lc lz).blk = some b) h h2 := by
    refine ⟨by omega, fun b hb hs => ?_, fun b cs hb hg => ?_⟩
    · rw [r2 b (by simp; omega) hs, get_add_lt hb]
    · rw [r2 b (by simp; omega) (fun e => ?_), get_add_lt hb]; exact hg
      rcases V.l with ⟨_, a, z, e2, _⟩ | ⟨b', o, cs', e2, hm, hb'⟩
      · rw [e2] at e; cases a <;> simp [AV.blk] at e
      · rw [e2] at e; simp [AV.blk] at e; subst e; rw [hb'.get] at hg; simp at hg
  simp (disch := first | ((try simp only [heapN]) <;> omega) | fail) only [go_sem, seval, g2]
  have hw : (((ss.length + 1 : Nat) : Int) - 1) = ss.length := by omega
  simp (disch := first | ((try simp only [heapN]) <;> omega) | fail) only [go_sem, seval, hw]
  have uP : Upd (· = k) h2 (h2.put k (.cells [.slc va (ss.length + 1) vc vz, pv] true)) := Upd.put _ rfl fun cs e => by rw [g2] at e; simp at e
  refine hQ _ _ ⟨(u2.weak fun b hb e hKb => (N b hKb).2.2.1 e).trans (uP.weak fun b _ e hKb => (N b hKb).2.1 e), ⟨by simp; omega, _, _, vs ++ [.slc none 0 (some 0) 0], get_put_self, ?_, fun b hb => ?_⟩, rfl⟩
  rotate_left
  · obtain ⟨m1, m2, m3, m4, m5⟩ := N b hb
    refine ⟨by simp; omega, m2, fun e => ?_, m4, fun v hv e => ?_⟩
    · have := b2 b e; simp at this; omega
    · rcases List.mem_append.1 hv with hv | hv
      · exact m5 v hv e
      · simp at hv; subst hv; simp [AV.blk] at e
  have nolv : ∀ b, k < b → b < h.nxt → (pv.blk = some b ∨ ∃ v ∈ vs, v.blk = some b) → ¬ ((AV.slc la ss.length lc lz).blk = some b) := by
    rintro b _ _ (e | ⟨v, hv, e⟩) h3
    · exact V.pl b e h3
    · obtain ⟨i, hi⟩ := List.getElem?_of_mem hv
      exact (V.fl i v b hi e).1 h3
  have keep : ∀ {α : Type} [Rep α] {v : AV} {xs : List α}, LFresh (k + 1) h v xs → (∀ b, v.blk = some b → ¬ ((AV.slc la ss.length lc lz).blk = some b)) → LFresh (k + 1) (h2.put k (.cells [.slc va (ss.length + 1) vc vz, pv] true)) v xs := fun L hn =>
    (L.upd u2 fun b _ e1 => hn b e1).upd uP fun b hb _ e => by omega
  refine ⟨by simp [V.len], ?_, keep V.p fun b e => V.pl b e, fun i x v hx hv => ?_, fun i j v w b hij hv hw hb => ?_, fun i v b hv hb => ?_, fun b hb e => ?_⟩
  · rw [stCs_app V.len]
    exact fresh_keepU (.inr M2) uP fun b hb _ e => by omega
  · by_cases hi : i < ss.length
    · rw [List.getElem?_append_left hi] at hx
      rw [List.getElem?_append_left (by rw [V.len]; exact hi)] at hv
      exact keep (V.f i x v hx hv) fun b e => (V.fl i v b hv e).1
    · rw [List.getElem?_append_right (by omega)] at hx
      rw [List.getElem?_append_right (by rw [V.len]; omega), V.len] at hv
      cases hj : i - ss.length with
      | zero =>
        rw [hj] at hx hv
        simp at hx hv
        subst hx; subst hv
        exact LFresh.nil
      | succ n => rw [hj] at hx; simp at hx
  · by_cases hi : i < vs.length
    · rw [List.getElem?_append_left hi] at hv
      by_cases hj : j < vs.length
      · rw [List.getElem?_append_left hj] at hw
        exact V.ff i j v w b hij hv hw hb
      · rw [List.getElem?_append_right (by omega)] at hw
        cases hj2 : j - vs.length with
        | zero => rw [hj2] at hw; simp at hw; subst hw; simp [AV.blk]
        | succ n => rw [hj2] at hw; simp at hw
    · rw [List.getElem?_append_right (by omega)] at hv
      cases hj2 : i - vs.length with
      | zero => rw [hj2] at hv; simp at hv; subst hv; simp [AV.blk] at hb
      | succ n => rw [hj2] at hv; simp at hv
  · by_cases hi : i < vs.length
    · rw [List.getElem?_append_left hi] at hv
      obtain ⟨x, hx⟩ : ∃ x, ss[i]? = some x := ⟨ss[i]'(by rw [← V.len]; exact hi), List.getElem?_eq_getElem _⟩
      have lt := (V.f i x v hx hv).lt hb
      exact ⟨fun e => by have := b2 b e; simp at this; omega, (V.fl i v b hv hb).2⟩
    · rw [List.getElem?_append_right (by omega)] at hv
      cases hj2 : i - vs.length with
      | zero => rw [hj2] at hv; simp at hv; subst hv; simp [AV.blk] at hb
      | succ n => rw [hj2] at hv; simp at hv
  · have := V.p.lt hb
    have := b2 b e
    simp at this; omega

/-- One cell of an element of a list is written. -/
theorem flat_set {sz : Nat} : ∀ {ls : List (List AV)} (i j : Nat) (l : List AV) (x : AV), (∀ l ∈ ls, l.length = sz) → ls[i]? = some l → j < sz → (ls.set i (l.set j x)).flatten = ls.flatten.set (i * sz + j) x
  | [], i, j, l, x, _, h, _ => by simp at h
  | y :: ls, 0, j, l, x, hs, h, hj => by
    have hy := hs y (by simp)
    simp at h; subst h
    simp only [List.set_cons_zero, List.flatten_cons, Nat.zero_mul, Nat.zero_add]
    rw [List.set_append_left _ _ (by omega)]
  | y :: ls, i + 1, j, l, x, hs, h, hj => by
    have hy := hs y (by simp)
    simp at h
    simp only [List.set_cons_succ, List.flatten_cons]
    rw [flat_set i j l x (fun l hl => hs l (by simp [hl])) h hj, List.set_append_right _ _ (by rw [hy, Nat.succ_mul]; omega)]
    congr 2
    rw [hy, Nat.succ_mul]; omega
theorem blk_set1 {h : Heap} {b o sz : Nat} {ls : List (List AV)} {cs : List AV} (B : BlkOf h b o sz ls cs true) {i j : Nat} {l : List AV} (x : AV) (hl : ls[i]? = some l) (hj : j < sz) :
    BlkOf (h.put b (.cells (cs.set (o + i * sz + j) x) true)) b o sz (ls.set i (l.set j x)) (cs.set (o + i * sz + j) x) true ∧ o + i * sz + j < cs.length := by
  have hi := (List.getElem?_eq_some_iff.1 hl).1
  have hll := B.len l (List.mem_of_getElem? hl)
  have hr := B.room
  have hm : (i + 1) * sz ≤ ls.length * sz := Nat.mul_le_mul_right _ hi
  rw [Nat.succ_mul] at hm
  refine ⟨⟨by simp; exact B.lt, get_put_self, fun m hm => ?_, by simpa using hr, ?_⟩, by omega⟩
  · rcases List.mem_or_eq_of_mem_set hm with h1 | rfl
    · exact B.len m h1
    · simpa using hll
  · rw [flat_set i j l x B.len hl hj, ← B.win, List.length_set, List.drop_set, if_neg (by omega), List.take_set]
    congr 1; omega
/-- A cell of a list is written, as the machine does it. -/
theorem mine_store {m : Nat} {h : Heap} {b o n z sz : Nat} {c : Option Nat} {ls : List (List AV)} (M : Mine m h (.slc (some (b, o)) n c z) sz ls) {i j : Nat} {l : List AV} (x : AV) (hl : ls[i]? = some l) (hj : j < sz) {cs : List AV} (hg : h.get b = some (.cells cs true)) :
    o + i * sz + j + 1 ≤ cs.length ∧ Mine m (h.put b (.cells (cs.set (o + i * sz + j) x) true)) (.slc (some (b, o)) n c z) sz (ls.set i (l.set j x)) := by
  obtain ⟨b', o', cs', e, hm, B⟩ := M
  simp only [AV.slc.injEq, Option.some.injEq, Prod.mk.injEq] at e
  obtain ⟨⟨rfl, rfl⟩, rfl, rfl, rfl⟩ := e
  have := B.get
  rw [hg] at this
  simp only [Option.some.injEq, Blk.cells.injEq, and_true] at this
  subst this
  obtain ⟨B2, hlt⟩ := blk_set1 B x hl hj
  exact ⟨by omega, b, o, _, by simp, hm, B2⟩

/-- A state is another one. -/
theorem NbV.setSt {h h' : Heap} {k : Nat} {lv pv : AV} {vs : List AV} {ss : List St} {ps : List Prt} (V : NbV h k lv pv vs ss ps) {i : Nat} {x x' : St} {v v' : AV} (hx : ss[i]? = some x) (hv : vs[i]? = some v)
    (u : Upd (fun b => lv.blk = some b ∨ v.blk = some b) h h') (l' : Fresh (k + 1) h' lv 5 (stCs (ss.set i x') (vs.set i v'))) (L' : LFresh (k + 1) h' v' x'.free) (hb : ∀ b, v'.blk = some b → v.blk = some b ∨ h.nxt ≤ b) :
    NbV h' k lv pv (vs.set i v') (ss.set i x') ps := by
  have hi := (List.getElem?_eq_some_iff.1 hx).1
  have hiv := (List.getElem?_eq_some_iff.1 hv).1
  have lvlt : ∀ b, lv.blk = some b → b < h.nxt := fun b e => fresh_lt' V.l e
  have flt : ∀ (j : Nat) (w : AV) (b : Nat), vs[j]? = some w → w.blk = some b → b < h.nxt := fun j w b hw e => by
    have hj := (List.getElem?_eq_some_iff.1 hw).1
    exact (V.f j _ w (List.getElem?_eq_getElem (by rw [← V.len]; exact hj)) hw).lt e
  refine ⟨by simp [V.len], l', V.p.upd u fun b _ e => ?_, fun j y w hy hw => ?_, fun j1 j2 w1 w2 b hne h1 h2 e1 => ?_, fun j w b hw e => ?_, V.pl⟩
  · rintro (e2 | e2)
    · exact V.pl b e e2
    · exact (V.fl i v b hv e2).2 e
  · by_cases hij : i = j
    · subst hij
      rw [List.getElem?_set_self hi] at hy
      rw [List.getElem?_set_self hiv] at hw
      simp only [Option.some.injEq] at hy hw
      subst hy; subst hw
      exact L'
    · rw [List.getElem?_set_ne hij] at hy hw
      refine (V.f j y w hy hw).upd u fun b _ e => ?_
      rintro (e2 | e2)
      · exact (V.fl j w b hw e).1 e2
      · exact V.ff i j v w b hij hv hw e2 e
  · by_cases hi1 : i = j1
    · subst hi1
      rw [List.getElem?_set_self hiv] at h1
      rw [List.getElem?_set_ne hne] at h2
      simp only [Option.some.injEq] at h1
      subst h1
      rcases hb b e1 with e | e
      · exact V.ff i j2 v w2 b hne hv h2 e
      · intro e2; have := flt j2 w2 b h2 e2; omega
    · rw [List.getElem?_set_ne hi1] at h1
      by_cases hi2 : i = j2
      · subst hi2
        rw [List.getElem?_set_self hiv] at h2
        simp only [Option.some.injEq] at h2
        subst h2
        intro e2
        rcases hb b e2 with e | e
        · exact V.ff j1 i w1 v b hne h1 hv e1 e
        · have := flt j1 w1 b h1 e1; omega
      · rw [List.getElem?_set_ne hi2] at h2
        exact V.ff j1 j2 w1 w2 b hne h1 h2 e1
  · by_cases hij : i = j
    · subst hij
      rw [List.getElem?_set_self hiv] at hw
      simp only [Option.some.injEq] at hw
      subst hw
      rcases hb b e with e | e2
      · exact V.fl i v b hv e
      · exact ⟨fun e3 => by have := lvlt b e3; omega, fun e3 => by have := V.p.lt e3; omega⟩
    · rw [List.getElem?_set_ne hij] at hw
      exact V.fl j w b hw e

theorem free_uf' {h : Heap} {k : Nat} {K : Nat → Prop} {ss : List St} {ps : List Prt} (B : Nb h k K ss ps) {i : Nat} {x : St} (hx : ss[i]? = some x) {v2 : AV} {xs : List Nat} (sx : Lst h v2 xs) (hs : ss.length ≤ 1000000) (hr : x.free.length + xs.length ≤ 1000000) :
    UF T F 54 [.ptr (some (k, 0)), .int .i64 i, v2] h fun _ h' => Upd (¬ K ·) h h' ∧ Nb h' k K (ss.set i { x with free := x.free ++ xs }) ps := by
  obtain ⟨hk, lv, pv, vs, g, V, N⟩ := B
  obtain ⟨hi, -⟩ := List.getElem?_eq_some_iff.1 hx
  obtain ⟨va, vn, vc, vz, rfl, hn⟩ := sx.form
  have hiv : i < vs.length := by rw [V.len]; exact hi
  obtain ⟨v, hv⟩ : ∃ v, vs[i]? = some v := ⟨vs[i], List.getElem?_eq_getElem hiv⟩
  have L := V.f i x v hx hv
  have M := V.l.mine (by rw [stCs_len V.len]; omega)
  have M' := M
  obtain ⟨lb, lo, cs, rfl, hmk, hB⟩ := M'
  rw [stCs_len V.len] at V M g
  have hc := stCs_get hx hv
  obtain ⟨hr1, -⟩ := mine_store M (j := 3) (.bool true) hc (by decide) hB.get
  obtain ⟨_, _, _, _, e0, _, hb1, hg1, hc1⟩ := M.slc.atN (by rw [stCs_len V.len]; omega)
  simp only [Option.some.injEq, Prod.mk.injEq] at e0
  obtain ⟨rfl, rfl⟩ := e0
  have hgB := hB.get
  rw [hgB] at hg1
  simp only [Option.some.injEq, Blk.cells.injEq] at hg1
  obtain ⟨rfl, rfl⟩ := hg1
  obtain ⟨hr2, hc2⟩ := hc1 i _ hc
  have hc3 : cs[lo + i * 5 + 3]? = some v := by
    have : ((cs.drop (lo + i * 5)).take 5)[3]? = some v := by rw [hc2]; rfl
    rw [List.getElem?_take, if_pos (by decide), List.getElem?_drop] at this; exact this
  have hlt : (i : Int) < ss.length := by omega
  refine UF.gen fun Q hQ => UF.of (F_54) (c := _) rfl ?_
  unfold Try.f54
  simp only [List.length, Nat.reduceSub, Nat.reduceAdd, List.replicate, List.cons_append, List.nil_append]
  simp (disch := first | ((try simp only [heapN]) <;> omega) | fail) only [go_sem, seval]
  refine DrawU_of' (fun b => b = k) [0, 1, 3, 7, 0, 0, 32, 96, 224, 0, 992, 2016, 4064, 0, 16352, 32767, 65535, 131071] (by rfl) (by rfl) (fun b hb => by subst hb; exact hk) ?_
  simp (disch := first | ((try simp only [heapN]) <;> omega) | fail) only [go_sem, seval]
  refine LoadK_ofU rfl rfl ?_
  simp (disch := first | ((try simp only [heapN]) <;> omega) | fail) only [go_sem, seval, g]
  refine LoadK_ofU rfl rfl ?_
  simp (disch := first | ((try simp only [heapN]) <;> omega) | fail) only [go_sem, seval, g, hlt, Int.toNat_natCast]
  refine LoadK_safeU (by rfl) ?_
  simp (disch := first | ((try simp only [heapN]) <;> omega) | fail) only [go_sem, seval, hgB, Int.toNat_natCast, hc3]
  have eb : Ext h (h.bump 18) := Ext.bump _ _
  refine fappend (m := k + 1) (xs := x.free) (ys := xs) T_49 rfl T_3 rfl (by decide) (by decide) (L.ext eb) ((sx.ext eb).slc) (by simp; omega) (by simp [roomA]; omega) ?_
  intro v9 h9 L9 u9 b9
  have n9 := u9.nxt
  simp only [bump_nxt] at n9 b9
  have g9 : ∀ b, b < h.nxt → v.blk ≠ some b → h9.get b = h.get b := fun b hb hne => (u9.get b (by simp; omega) hne).trans (eb.get b hb)
  have gk : h9.get k = some (.cells [AV.slc (some (lb, lo)) ss.length none 5, pv] true) := (g9 k hk fun e => by have := L.blk e; omega).trans g
  have gl : h9.get lb = some (.cells cs true) := (g9 lb hb1 fun e => (V.fl i v lb hv e).1 rfl).trans hgB
  have hlt9 : lo + i * 5 + 3 + 1 ≤ cs.length := by omega
  obtain ⟨wa, wn, wc, wz, rfl, hwn⟩ := L9.form
  simp (disch := first | ((try simp only [heapN]) <;> omega) | fail) only [go_sem, seval]
  refine ⟨fun b hb => by subst hb; rw [gk, g], ?_⟩
  simp (disch := first | ((try simp only [heapN]) <;> omega) | fail) only [go_sem, seval, gl, Int.toNat_natCast, hlt, hlt9]
  have lbk : lb ≠ k := by omega
  refine ⟨fun b hb => by subst hb; exact get_put_ne lbk, ?_⟩
  have uP : Upd (· = lb) h9 (h9.put lb (.cells (cs.set (lo + i * 5 + 3) (AV.slc wa wn wc wz)) true)) := Upd.put _ rfl fun c e => by rw [gl] at e; simp at e
  have u09 : Upd (fun b => v.blk = some b) h h9 := (eb.upd _).trans u9
  have uA : Upd (fun b => (AV.slc (some (lb, lo)) ss.length none 5).blk = some b ∨ v.blk = some b) h (h9.put lb (.cells (cs.set (lo + i * 5 + 3) (AV.slc wa wn wc wz)) true)) :=
    (u09.weak fun b _ e => .inr e).trans (uP.weak fun b _ e => .inl (by rw [e]; rfl))
  have M9 : Mine (k + 1) h9 (.slc (some (lb, lo)) ss.length none 5) 5 (stCs ss vs) := M.keep (by omega) fun b _ _ _ _ e hb => g9 b hb fun e2 => by
    have := (V.fl i v b hv e2).1
    simp only [AV.slc.injEq, Option.some.injEq, Prod.mk.injEq] at e
    rw [e.1.1] at this; exact this rfl
  obtain ⟨-, M10⟩ := mine_store M9 (j := 3) (AV.slc wa wn wc wz) hc (by decide) gl
  refine hQ _ _ ⟨uA.weak fun b _ e => ?_, by simp; omega, _, _, _, (get_put_ne lbk).trans gk, V.setSt (x' := { x with free := x.free ++ xs }) (v' := AV.slc wa wn wc wz) hx hv uA (.inr ?_) (L9.upd uP fun b _ e e2 => ?_) fun b e => (b9 b e).imp id fun e => by omega, fun b hb => ?_⟩
  · intro hKb
    obtain ⟨m1, m2, m3, m4, m5⟩ := N b hKb
    rcases e with e | e
    · exact m3 e
    · exact m5 v (List.mem_of_getElem? hv) e
  · rw [stCs_set i _ _ V.len]
    exact M10
  · subst e2
    rcases b9 _ e with e3 | e3
    · exact (V.fl i v _ hv e3).1 rfl
    · omega
  · obtain ⟨m1, m2, m3, m4, m5⟩ := N b hb
    refine ⟨by simp; omega, m2, m3, m4, fun w hw e => ?_⟩
    rcases List.mem_or_eq_of_mem_set hw with h1 | rfl
    · exact m5 w h1 e
    · rcases b9 b e with e3 | e3
      · exact m5 v (List.mem_of_getElem? hv) e3
      · omega
/-- A state goes to others with nothing. -/
def freeS (ss : List St) (i : Nat) (xs : List Nat) : List St := match ss[i]? with
  | some x => ss.set i { x with free := x.free ++ xs }
  | none => ss
theorem freeS_len (ss : List St) (i : Nat) (xs : List Nat) : (freeS ss i xs).length = ss.length := by
  unfold freeS; split <;> simp
theorem free_uf {h : Heap} {k : Nat} {K : Nat → Prop} {ss : List St} {ps : List Prt} (B : Nb h k K ss ps) {i : Nat} (hi : i < ss.length) {v2 : AV} {xs : List Nat} (sx : Lst h v2 xs) (hs : ss.length ≤ 1000000) (hr : ∀ x ∈ ss, x.free.length + xs.length ≤ 1000000) :
    UF T F 54 [.ptr (some (k, 0)), .int .i64 i, v2] h fun _ h' => Upd (¬ K ·) h h' ∧ Nb h' k K (freeS ss i xs) ps := by
  have hx : ss[i]? = some ss[i] := List.getElem?_eq_getElem hi
  have := free_uf' B hx sx hs (hr _ (List.getElem_mem hi))
  unfold freeS
  rw [hx]; exact this

theorem clone_uf {h : Heap} {v : AV} {xs : List Prt} (s : LSlc h v xs) (hl : xs.length ≤ 1000000) : UF T F 94 [v] h fun v' h' => Ext h h' ∧ Lst h' v' xs := by
  obtain ⟨a, c, z, rfl⟩ := s.form
  generalize hn : xs.length = n at s ⊢
  refine UF.genq fun Q hQ => UF.of (F_94) (c := _) rfl ?_
  unfold Try.f94
  simp only [List.length, Nat.reduceSub, Nat.reduceAdd, List.replicate, List.cons_append, List.nil_append]
  simp (disch := first | ((try simp only [heapN]) <;> omega) | fail) only [go_sem, seval]
  cases a with
  | none =>
    have hxs : xs = [] := by
      obtain ⟨ls, s1, s2⟩ := s
      rcases s1 with ⟨rfl, _⟩ | ⟨_, _, _, _, _, e, _⟩
      · have := s2.length; simp at this; exact List.eq_nil_of_length_eq_zero this.symm
      · simp at e
    subst hxs
    simp (disch := first | ((try simp only [heapN]) <;> omega) | fail) only [go_sem, seval, Option.isNone_none]
    exact hQ _ _ _ (Le.refl _) ⟨Ext.refl h, Lst.nil⟩
  | some a =>
    simp (disch := first | ((try simp only [heapN]) <;> omega) | fail) only [go_sem, seval, Option.isNone_some]
    have e1 : Ext h (h.add (.cells [] true)) := Ext.add _ _
    refine lappend (m := h.nxt) (xs := ([] : List Prt)) (ys := xs) T_105 rfl T_112 rfl (by decide) (by decide) ⟨[], .inl ⟨rfl, _, _, rfl, fun _ => rfl⟩, .nil⟩ ?_ (by simp) (by simp [roomA]; omega) ?_
    · obtain ⟨ls, s1, s2⟩ := s; exact ⟨ls, s1.ext e1, s2.pst e1.pst⟩
    intro v2 h2 n2 g2 o2 c2 p2
    have e2 : Ext h h2 := ⟨by simp at n2; omega, fun b hb => (g2 b (by simp; omega) (by simp [AV.blk])).trans (e1.get b hb)⟩
    simp (disch := first | ((try simp only [heapN]) <;> omega) | fail) only [go_sem, seval]
    rcases c2 with ⟨rfl, rfl, rfl⟩ | ⟨L2, b2⟩
    · exact hQ _ _ _ (Le.refl _) ⟨e2, [], .inl ⟨rfl, _, _, _, rfl, fun _ => rfl⟩, .nil⟩
    · obtain ⟨h3, l3, n3, L3, u3⟩ := L2.frz
      refine hQ _ _ h3 l3 ⟨⟨by rw [n3]; exact e2.nxt, fun b hb => (u3.get b (Nat.lt_of_lt_of_le hb e2.nxt) fun ⟨h1, _⟩ => by omega).trans (e2.get b hb)⟩, L3⟩

/-- The stack is another one. -/
theorem NbV.setP {h h' : Heap} {k : Nat} {lv pv pv' : AV} {vs : List AV} {ss : List St} {ps ps' : List Prt} (V : NbV h k lv pv vs ss ps) (u : Upd (fun b => pv.blk = some b) h h') (L : LFresh (k + 1) h' pv' ps')
    (hb : ∀ b, pv'.blk = some b → pv.blk = some b ∨ h.nxt ≤ b) : NbV h' k lv pv' vs ss ps' := by
  have lvlt : ∀ b, lv.blk = some b → b < h.nxt := fun b e => fresh_lt' V.l e
  refine ⟨V.len, fresh_keepU V.l u fun b _ e e2 => V.pl b e2 e, L, fun i x v hx hv => (V.f i x v hx hv).upd u fun b _ e e2 => (V.fl i v b hv e).2 e2, V.ff, fun i v b hv e => ⟨(V.fl i v b hv e).1, fun e2 => ?_⟩, fun b e e2 => ?_⟩
  · rcases hb b e2 with e3 | e3
    · exact (V.fl i v b hv e).2 e3
    · have hi := (List.getElem?_eq_some_iff.1 hv).1
      have := (V.f i _ v (List.getElem?_eq_getElem (by rw [← V.len]; exact hi)) hv).lt e
      omega
  · rcases hb b e with e3 | e3
    · exact V.pl b e3 e2
    · have := lvlt b e2; omega

theorem take_uf {h : Heap} {k : Nat} {K : Nat → Prop} {ss : List St} {ps : List Prt} (B : Nb h k K ss ps) {n : Nat} (hn : n ≤ ps.length) (h0 : 0 < n) (hl : ps.length ≤ 1000000) : UF T F 89 [.ptr (some (k, 1)), .int .i64 n] h fun v' h' =>
    Upd (¬ K ·) h h' ∧ Nb h' k K ss (ps.take (ps.length - n)) ∧ ∃ w, v' = .tup [w, .bool true] ∧ Lst h' w (ps.drop (ps.length - n)) := by
  obtain ⟨hk, lv, pv, vs, g, V, N⟩ := B
  have LP := V.p
  obtain ⟨qs, s1, s2⟩ := LP
  have hql := s2.length
  have M := s1.mine (by omega)
  obtain ⟨pa, pc, pz, rfl⟩ := M.slc.form
  rw [hql] at g V M N
  have hat : ((ps.length : Int) - n) = ((ps.length - n : Nat) : Int) := by omega
  have hnn : ¬ ((ps.length - n : Nat) : Int) < 0 := by omega
  generalize hm : ps.length - n = m at hat hnn ⊢
  refine UF.genq fun Q hQ => UF.of (F_89) (c := _) rfl ?_
  unfold Try.f89
  simp only [List.length, Nat.reduceSub, Nat.reduceAdd, List.replicate, List.cons_append, List.nil_append]
  simp (disch := first | ((try simp only [heapN]) <;> omega) | fail) only [go_sem, seval]
  simp (disch := first | ((try simp only [heapN]) <;> omega) | fail) only [go_sem, seval, g, hat, hnn]
  refine slice_lo (i := (m : Int)) M.slc T_105 rfl T_112 rfl (by omega) (by omega) ?_
  intro w s3 _
  simp (disch := first | ((try simp only [heapN]) <;> omega) | fail) only [go_sem, seval]
  have s4 : LSlc h w (ps.drop m) := ⟨_, s3, by simpa using s2.drop m⟩
  refine callV_ofU F_94 rfl ((clone_uf s4 (by simp; omega)).mono ?_)
  rintro v2 h2 ⟨e2, L2⟩
  simp (disch := first | ((try simp only [heapN]) <;> omega) | fail) only [go_sem, seval]
  have g2 := (e2.get k hk).trans g
  simp (disch := first | ((try simp only [heapN]) <;> omega) | fail) only [go_sem, seval, g2]
  have M2 : Mine (k + 1) h2 (.slc pa ps.length pc pz) 2 qs := M.keep e2.nxt fun b _ _ _ _ _ hb => e2.get b hb
  refine mine_hi (i := (m : Int)) M2 T_105 rfl T_112 rfl (by omega) (by omega) ?_
  intro w3 M3 b3
  obtain ⟨wa, wc, wz, rfl⟩ := M3.slc.form
  simp (disch := first | ((try simp only [heapN]) <;> omega) | fail) only [go_sem, seval, g2]
  rw [Int.toNat_natCast] at M3 ⊢
  have e0 := e2.nxt
  have V2 : NbV h2 k lv (.slc pa ps.length pc pz) vs ss ps := V.upd (e2.upd fun _ => False) fun _ _ _ _ f => f
  have s5 : LFresh (k + 1) h2 (.slc wa (List.take m qs).length wc wz) (ps.take m) := ⟨_, .inr M3, (s2.pst e2.pst).take m⟩
  have V3 := V2.setP (Upd.refl _ _) s5 fun b e => .inl (by rw [← b3, Int.toNat_natCast]; exact e)
  have uP : Upd (· = k) h2 (h2.put k (.cells [lv, .slc wa (List.take m qs).length wc wz] true)) := Upd.put _ rfl fun c e => by rw [g2] at e; simp at e
  refine hQ _ _ _ (Le.refl _) ⟨((e2.upd _).trans uP).weak fun b _ e hKb => (N b hKb).2.1 e, ⟨by simp; omega, _, _, vs, get_put_self, V3.upd uP fun b hb _ _ e => by omega, fun b hb => ?_⟩, v2, rfl, L2.pst uP.pst⟩
  obtain ⟨m1, m2, m3, m4, m5⟩ := N b hb
  exact ⟨by simp; omega, m2, m3, fun e => m4 (by rw [← b3, Int.toNat_natCast]; exact e), m5⟩

/-- How great states are. -/
def wt (ss : List St) : Nat := (ss.map fun x => 1 + x.free.length).sum
theorem wt_app (a b : List St) : wt (a ++ b) = wt a + wt b := by simp [wt]
theorem wt_len : ∀ ss : List St, ss.length ≤ wt ss
  | [] => by simp
  | x :: ss => by have := wt_len ss; simp only [wt, List.map_cons, List.sum_cons, List.length_cons] at this ⊢; omega
theorem wt_mem : ∀ {ss : List St} {x : St}, x ∈ ss → 1 + x.free.length ≤ wt ss
  | y :: ss, x, h => by
    rcases List.mem_cons.1 h with rfl | h
    · simp only [wt, List.map_cons, List.sum_cons]; omega
    · have := wt_mem h; simp only [wt, List.map_cons, List.sum_cons] at this ⊢; omega
theorem wt_set : ∀ {ss : List St} {i : Nat} {x : St} (n : Nat) (y : St), ss[i]? = some x → y.free.length = x.free.length + n → wt (ss.set i y) = wt ss + n
  | [], _, _, _, _, h, _ => by simp at h
  | z :: ss, 0, x, n, y, h, e => by simp at h; subst h; simp only [wt, List.set_cons_zero, List.map_cons, List.sum_cons, e]; omega
  | z :: ss, i + 1, x, n, y, h, e => by
    have := wt_set (ss := ss) (i := i) n y (by simpa using h) e
    simp only [wt, List.set_cons_succ, List.map_cons, List.sum_cons] at this ⊢; omega
theorem wt_free (ss : List St) (i : Nat) (xs : List Nat) : wt (freeS ss i xs) ≤ wt ss + xs.length := by
  unfold freeS
  split
  · rename_i x h; exact Nat.le_of_eq (wt_set _ _ h (by simp))
  · omega
/-- States of a class. -/
def clsR (f t : Nat) (ss : List St) (r : Rng) : List St := freeS (ss ++ [⟨r.lo, r.hi, (t : Nat), [], 0⟩]) f [ss.length]
def clsS (f t : Nat) (ss : List St) (l : List Rng) : List St := l.foldl (clsR f t) ss
theorem clsR_wt (f t : Nat) (ss : List St) (r : Rng) : wt (clsR f t ss r) ≤ wt ss + 2 := by
  have := wt_free (ss ++ [⟨r.lo, r.hi, (t : Nat), [], 0⟩]) f [ss.length]
  rw [wt_app] at this
  have h1 : wt [(⟨r.lo, r.hi, (t : Nat), [], 0⟩ : St)] = 1 := rfl
  have h2 : [ss.length].length = 1 := rfl
  unfold clsR; omega
theorem clsR_len (f t : Nat) (ss : List St) (r : Rng) : (clsR f t ss r).length = ss.length + 1 := by simp [clsR, freeS_len]
theorem clsS_wt (f t : Nat) : ∀ (l : List Rng) (ss : List St), wt (clsS f t ss l) ≤ wt ss + 2 * l.length
  | [], ss => by simp [clsS]
  | r :: l, ss => by
    have h1 := clsR_wt f t ss r
    have h2 := clsS_wt f t l (clsR f t ss r)
    simp only [clsS, List.foldl_cons, List.length_cons] at h2 ⊢; omega
theorem clsS_len (f t : Nat) : ∀ (l : List Rng) (ss : List St), (clsS f t ss l).length = ss.length + l.length
  | [], ss => by simp [clsS]
  | r :: l, ss => by
    have h2 := clsS_len f t l (clsR f t ss r)
    rw [clsR_len] at h2
    simp only [clsS, List.foldl_cons, List.length_cons] at h2 ⊢; omega

theorem reps_nat (h : Heap) : ∀ xs : List Nat, Reps h xs (xs.map fun (x : Nat) => [AV.int .i64 x])
  | [] => .nil
  | x :: xs => .cons rfl (reps_nat h xs)
/-- Where the others are written out. -/
theorem freeA_uf {h0 h : Heap} {k : Nat} {K : Nat → Prop} {ss : List St} {ps : List Prt} (B : Nb h0 k K ss ps) (e : Ext h0 h) {b : Nat} (hb0 : h0.nxt ≤ b) (hb : b < h.nxt) {i : Nat} (hi : i < ss.length) {n : Nat} (xs : List Nat) (hn : n = xs.length) {cs : List AV} (hg : h.get b = some (.cells cs true)) (hc : cs = xs.map fun (x : Nat) => AV.int .i64 x) (hs : wt ss + xs.length ≤ 1000000) :
    UF T F 54 [.ptr (some (k, 0)), .int .i64 i, .slc (some (b, 0)) n (some n) 1] h fun _ h' => Upd (¬ K ·) h0 h' ∧ Nb h' k K (freeS ss i xs) ps := by
  have hlen := wt_len ss
  have sl : LSlc h (.slc (some (b, 0)) n (some n) 1) xs := LSlc.lit (xs := xs) (ls := xs.map fun (x : Nat) => [AV.int .i64 x]) hb hg (by
    rw [hc]; clear hc hn hs hg; induction xs with
    | nil => rfl
    | cons x xs ih => simp only [List.map_cons, List.flatten_cons, List.cons_append, List.nil_append, ih]) (reps_nat h xs) (by rw [hn, List.length_map]) rfl
  have sf : Lst (h.frz b) (.slc (some (b, 0)) n (some n) 1) xs := sl.frz
  have u1 : Upd (h0.nxt ≤ ·) h0 (h.frz b) := (e.upd _).trans (frz_upd hb0)
  have e1 : Ext h0 (h.frz b) := u1.ext fun b hb => by omega
  refine UF.less (frz_le _ _) ((free_uf (B.ext e1) hi sf (by omega) fun x hx => ?_).mono ?_)
  · have := wt_mem hx; omega
  · rintro v h' ⟨u2, B2⟩
    exact ⟨(e1.upd _).trans u2, B2⟩

theorem nclass_uf {h : Heap} {k : Nat} {K : Nat → Prop} {ss : List St} {ps : List Prt} (B : Nb h k K ss ps) {v : AV} {l : List Rng} (sl : Lst h v l) (hne : l ≠ []) (hok : ∀ r ∈ l, RngOk r) (hw : wt ss + 2 + 2 * l.length ≤ 1000000) :
    UF T F 84 [.ptr (some (k, 0)), v] h fun v' h' => Upd (¬ K ·) h h' ∧ Nb h' k K (clsS ss.length (ss.length + 1) (ss ++ [st0, st0]) l) ps ∧ v' = .tup [.agg [.int .i64 ss.length, .int .i64 (ss.length + 1 : Nat)], .bool true] := by
  have hk := B.1
  have hsl := wt_len ss
  obtain ⟨va, vn, vc, vz, rfl, hn⟩ := sl.form
  refine UF.gen fun Q hQ => UF.of (F_84) (c := _) rfl ?_
  unfold Try.f84
  simp only [List.length, Nat.reduceSub, Nat.reduceAdd, List.replicate, List.cons_append, List.nil_append]
  simp (disch := first | ((try simp only [heapN]) <;> omega) | fail) only [go_sem, seval]
  have e1 : Ext h (h.add (.cells [.int .i64 0, .int .i64 0] true)) := Ext.add _ _
  have hK : ∀ b, K b → b < h.nxt := fun b hb => by obtain ⟨_, _, _, _, _, _, N⟩ := B; exact (N b hb).1
  have B1 : Nb (h.add (.cells [.int .i64 0, .int .i64 0] true)) k (fun b => K b ∨ b = h.nxt) ss ps := B.upd (e1.upd fun _ => False) (fun _ f _ => f.elim) fun b hb => by
    rcases hb with hb | rfl
    · exact ⟨by have := hK b hb; simp; omega, .inl hb⟩
    · exact ⟨by simp, .inr (Nat.le_refl _)⟩
  refine callV_ofU F_52 rfl ((state_uf B1 (by omega)).mono ?_)
  rintro v2 h2 ⟨u2, B2, rfl⟩
  simp (disch := first | ((try simp only [heapN]) <;> omega) | fail) only [go_sem, seval]
  refine callV_ofU F_52 rfl ((state_uf B2 (by simp; omega)).mono ?_)
  rintro v3 h3 ⟨u3, B3, rfl⟩
  simp (disch := first | ((try simp only [heapN]) <;> omega) | fail) only [go_sem, seval]
  have u13 := u2.trans u3
  have n3 := u13.nxt
  simp only [Heap.add_nxt] at n3
  have g4 : h3.get h.nxt = some (.cells [.int .i64 0, .int .i64 0] true) := (u13.get _ (by simp) (by simp)).trans get_add_self
  generalize hb6 : h3.nxt = b6 at n3 ⊢
  have hss2 : ss ++ [st0] ++ [st0] = ss ++ [st0, st0] := by simp
  have hl1 : (ss ++ [st0]).length = ss.length + 1 := by simp
  rw [hss2] at B3
  have e4 : Ext h3 ((h3.add (.cells [.int .i64 0, .int .i64 0] true)).put b6 (.cells [.int .i64 ss.length, .int .i64 (ss.length + 1 : Nat)] true)) := (Ext.add _ _).put (by omega)
  have B4 : Nb ((h3.add (.cells [.int .i64 0, .int .i64 0] true)).put b6 (.cells [.int .i64 ss.length, .int .i64 (ss.length + 1 : Nat)] true)) k (fun b => (K b ∨ b = h.nxt) ∨ b = b6) (ss ++ [st0, st0]) ps := B3.upd (e4.upd fun _ => False) (fun _ f _ => f.elim) fun b hb => by
    rcases hb with (hb | rfl) | rfl
    · exact ⟨by have := hK b hb; simp; omega, .inl (.inl hb)⟩
    · exact ⟨by simp; omega, .inl (.inr rfl)⟩
    · exact ⟨by simp; omega, .inr (by omega)⟩
  have u04 : Upd (¬ K ·) h ((h3.add (.cells [.int .i64 0, .int .i64 0] true)).put b6 (.cells [.int .i64 ss.length, .int .i64 (ss.length + 1 : Nat)] true)) := ((e1.upd _).trans (u13.weak fun b _ h1 h2 => h1 (.inl h2))).trans (e4.upd _)
  have g46 : ((h3.add (.cells [.int .i64 0, .int .i64 0] true)).put b6 (.cells [.int .i64 ss.length, .int .i64 (ss.length + 1 : Nat)] true)).get b6 = some (.cells [.int .i64 ss.length, .int .i64 (ss.length + 1 : Nat)] true) := get_put_self
  have g44 : ((h3.add (.cells [.int .i64 0, .int .i64 0] true)).put b6 (.cells [.int .i64 ss.length, .int .i64 (ss.length + 1 : Nat)] true)).get h.nxt = some (.cells [.int .i64 0, .int .i64 0] true) := (e4.get _ (by omega)).trans g4
  generalize ((h3.add (.cells [.int .i64 0, .int .i64 0] true)).put b6 (.cells [.int .i64 ss.length, .int .i64 (ss.length + 1 : Nat)] true)) = h5 at B4 u04 g46 g44 ⊢
  refine LoopU_while (fun m st hh => ∃ j, j ≤ l.length ∧ m = l.length - j ∧ Nb hh k (fun b => (K b ∨ b = h.nxt) ∨ b = b6) (clsS ss.length (ss.length + 1) (ss ++ [st0, st0]) (l.take j)) ps ∧ Upd (¬ K ·) h hh ∧
      hh.get b6 = some (.cells [.int .i64 ss.length, .int .i64 (ss.length + 1 : Nat)] true) ∧ hh.get h.nxt = some (.cells [.int .i64 0, .int .i64 0] true) ∧
      Keep st 77 [(0, .ptr (some (k, 0))), (1, .slc va vn vc vz), (4, .ptr (some (h.nxt, 0))), (6, .ptr (some (b6, 0))), (15, .slc va vn vc vz), (16, .int .i64 vn), (17, .int .i64 (j : Nat))]) l.length
    ⟨0, by omega, by omega, B4, u04, g46, g44, rfl, by simp [Has]⟩ ?_
  rintro m st hh ⟨j, hj, rfl, Bj, uj, gj6, gj4, hk9⟩
  rw [hk9.eq]
  obtain ⟨k0, k1, k4, k6, k15, k16, k17, -⟩ := hk9.2
  simp only [slotsFrom, Nat.reduceAdd] at k0 k1 k4 k6 k15 k16 k17 ⊢
  simp only [k0, k1, k4, k6, k15, k16, k17]
  have slj := sl.pst uj.pst
  simp (disch := first | ((try simp only [heapN]) <;> omega) | fail) only [go_sem, seval]
  by_cases hlt : (j : Int) < vn
  · have hjl : j < l.length := by omega
    have hr := hok _ (List.getElem_mem hjl)
    obtain ⟨rb, ro, rcs, rl, rfl, rfl, hrb, hrg, rfl, hrr, hrt, hrc⟩ := slj.at_ (i := j) (x := l[j]) (List.getElem?_eq_getElem hjl) (k := 2) rfl
    have r1 : ¬ (l[j].lo.toNat : Int) < 32 := by have := hr.2.1; omega
    have r2 : ¬ (l[j].lo.toNat : Int) > l[j].hi.toNat := by have := hr.1; omega
    have r3 : ¬ (l[j].hi.toNat : Int) > 126 := by have := hr.2.2; omega
    simp (disch := first | ((try simp only [heapN]) <;> omega) | fail) only [go_sem, seval, hlt, hrg, Int.toNat_natCast, hrr, hrt, r1, r2, r3]
    generalize hsj : clsS ss.length (ss.length + 1) (ss ++ [st0, st0]) (l.take j) = sj at Bj
    have hwj : wt sj ≤ wt ss + 2 + 2 * j := by
      have := clsS_wt ss.length (ss.length + 1) (l.take j) (ss ++ [st0, st0])
      rw [wt_app, hsj, List.length_take_of_le hj] at this
      have h2 : wt [st0, st0] = 2 := rfl
      omega
    have hlj := wt_len sj
    have hkh := Bj.1
    generalize hb8 : hh.nxt = b8 at hkh ⊢
    have e8 : Ext hh ((hh.add (.cells [.int .u8 0, .int .u8 0] true)).put b8 (.cells [.int .u8 l[j].lo.toNat, .int .u8 l[j].hi.toNat] true)) := (Ext.add _ _).put (by omega)
    have g88 : ((hh.add (.cells [.int .u8 0, .int .u8 0] true)).put b8 (.cells [.int .u8 l[j].lo.toNat, .int .u8 l[j].hi.toNat] true)).get b8 = some (.cells [.int .u8 l[j].lo.toNat, .int .u8 l[j].hi.toNat] true) := get_put_self
    have nj := uj.nxt
    have hkx : ∀ b, (K b ∨ b = h.nxt) ∨ b = b6 → b < hh.nxt := fun b hb => by obtain ⟨_, _, _, _, _, _, N⟩ := Bj; exact (N b hb).1
    have B8 : Nb ((hh.add (.cells [.int .u8 0, .int .u8 0] true)).put b8 (.cells [.int .u8 l[j].lo.toNat, .int .u8 l[j].hi.toNat] true)) k (fun b => ((K b ∨ b = h.nxt) ∨ b = b6) ∨ b = b8) sj ps := Bj.upd (e8.upd fun _ => False) (fun _ f _ => f.elim) fun b hb => by
      rcases hb with hb | rfl
      · exact ⟨by have := hkx b hb; simp; omega, .inl hb⟩
      · exact ⟨by simp; omega, .inr (by omega)⟩
    have n8 : b8 < ((hh.add (.cells [.int .u8 0, .int .u8 0] true)).put b8 (.cells [.int .u8 l[j].lo.toNat, .int .u8 l[j].hi.toNat] true)).nxt := by simp; omega
    generalize ((hh.add (.cells [.int .u8 0, .int .u8 0] true)).put b8 (.cells [.int .u8 l[j].lo.toNat, .int .u8 l[j].hi.toNat] true)) = h8 at e8 g88 B8 n8 ⊢
    refine callV_ofU F_52 rfl ((state_uf B8 (by omega)).mono ?_)
    rintro v9 h9 ⟨u9, B9, rfl⟩
    simp (disch := first | ((try simp only [heapN]) <;> omega) | fail) only [go_sem, seval]
    have n9 := u9.nxt
    have g98 := (u9.get b8 n8 (by simp)).trans g88
    have g96 := (u9.get b6 (Nat.lt_of_lt_of_le (hkx b6 (.inr rfl)) e8.nxt) (by simp)).trans ((e8.get b6 (hkx b6 (.inr rfl))).trans gj6)
    have g94 := (u9.get h.nxt (Nat.lt_of_lt_of_le (hkx h.nxt (.inl (.inr rfl))) e8.nxt) (by simp)).trans ((e8.get h.nxt (hkx h.nxt (.inl (.inr rfl)))).trans gj4)
    have uj9 : Upd (¬ K ·) h h9 := (uj.trans (e8.upd _)).trans (u9.weak fun b _ h1 h2 => h1 (.inl (.inl (.inl h2))))
    obtain ⟨hk9, lv, pv, vs, g9, V9, N9⟩ := B9
    have e10 : Ext h9 (h9.bump 30) := Ext.bump _ _
    have V10 := V9.upd (e10.upd fun _ => False) fun _ _ _ _ f => f
    have hvl := V9.len
    simp only [List.length_append, List.length_cons, List.length_nil, Nat.zero_add] at hvl
    have hx : (sj ++ [st0])[sj.length]? = some st0 := by simp
    obtain ⟨v, hv⟩ : ∃ v, vs[sj.length]? = some v := ⟨vs[sj.length], List.getElem?_eq_getElem (by omega)⟩
    have hc := stCs_get hx hv
    have M := V10.l.mine (by rw [stCs_len V9.len]; simp)
    have M' := M
    obtain ⟨lb, lo, cs, rfl, hmk, hB⟩ := M'
    have hgB : h9.get lb = some (.cells cs true) := hB.get
    have hsl1 : (stCs (sj ++ [st0]) vs).length = sj.length + 1 := by rw [stCs_len V9.len]; simp
    rw [hsl1] at V9 V10 M g9 N9
    obtain ⟨o0, M0⟩ := mine_store M (j := 0) (.int .u8 l[j].lo.toNat) hc (by decide) hgB
    obtain ⟨o1, M1⟩ := mine_store M0 (i := sj.length) (j := 1) (l := (stC st0 v).set 0 (.int .u8 l[j].lo.toNat)) (.int .u8 l[j].hi.toNat) (by rw [List.getElem?_set_self (by omega)]) (by decide) get_put_self
    obtain ⟨o2, M2⟩ := mine_store M1 (i := sj.length) (j := 2) (l := ((stC st0 v).set 0 (.int .u8 l[j].lo.toNat)).set 1 (.int .u8 l[j].hi.toNat)) (.int .i64 (ss.length + 1 : Nat)) (by rw [List.getElem?_set_self (by simp; omega)]) (by decide) get_put_self
    simp only [List.length_set] at o1 o2
    have hlt2 : (sj.length : Int) < (sj.length + 1 : Nat) := by omega
    rw [Nat.add_zero] at M0 M1 M2 o0
    have hlb := fresh_lt' V9.l (b := lb) rfl
    have nK := fun b hb => (N9 b hb).2.2.1
    refine DrawU_of' (fun b => b = k ∨ b = b6 ∨ b = b8) [0, 1, 3, 7, 0, 0, 32, 96, 224, 0, 0, 1024, 3072, 7168, 0, 0, 32768, 0, 131072, 0, 524288, 114175, 2211327, 6405631, 15187967, 31965183, 65519615, 134217727, 268435455, 536870911] (by rfl) (by rfl) (fun b hb => by rcases hb with rfl | rfl | rfl; exact hk9; exact (N9 _ (.inl (.inr rfl))).1; exact (N9 _ (.inr rfl)).1) ?_
    have lk : lb ≠ k := by omega
    have l6 : lb ≠ b6 := fun e => nK b6 (.inl (.inr rfl)) (by rw [← e]; rfl)
    have l8 : lb ≠ b8 := fun e => nK b8 (.inr rfl) (by rw [← e]; rfl)
    simp (disch := first | ((try simp only [heapN]) <;> omega) | fail) only [go_sem, seval]
    refine LoadK_ofU rfl (.inl rfl) ?_
    simp (disch := first | ((try simp only [heapN]) <;> omega) | fail) only [go_sem, seval, g9]
    refine LoadK_ofU rfl (.inl rfl) ?_
    simp (disch := first | ((try simp only [heapN]) <;> omega) | fail) only [go_sem, seval, g9]
    refine LoadK_ofU rfl (.inl rfl) ?_
    simp (disch := first | ((try simp only [heapN]) <;> omega) | fail) only [go_sem, seval, g9]
    refine LoadK_ofU rfl (.inr (.inr rfl)) ?_
    simp (disch := first | ((try simp only [heapN]) <;> omega) | fail) only [go_sem, seval, g98]
    refine LoadK_ofU rfl (.inr (.inr rfl)) ?_
    simp (disch := first | ((try simp only [heapN]) <;> omega) | fail) only [go_sem, seval, g98]
    refine LoadK_ofU rfl (.inr (.inl rfl)) ?_
    simp (disch := first | ((try simp only [heapN]) <;> omega) | fail) only [go_sem, seval, g96, hlt2, hgB, o0, Int.toNat_natCast]
    have pk : ∀ b (h1 : Heap) (x : Blk), (b = k ∨ b = b6 ∨ b = b8) → (h1.put lb x).get b = h1.get b := fun b h1 x hb => by
      rcases hb with rfl | rfl | rfl
      · exact get_put_ne lk
      · exact get_put_ne l6
      · exact get_put_ne l8
    refine ⟨fun b hb => pk b _ _ hb, ?_⟩
    simp (disch := first | ((try simp only [heapN]) <;> omega) | fail) only [go_sem, seval, List.length_set, o1]
    refine ⟨fun b hb => pk b _ _ hb, ?_⟩
    refine ⟨fun b hb => pk b _ _ hb, ?_⟩
    rw [Int.toNat_natCast]
    have uS : Upd (fun b => (AV.slc (some (lb, lo)) (sj.length + 1) none 5).blk = some b) h9 ((((h9.bump 30).put lb (.cells (cs.set (lo + sj.length * 5) (.int .u8 l[j].lo.toNat)) true)).put lb (.cells ((cs.set (lo + sj.length * 5) (.int .u8 l[j].lo.toNat)).set (lo + sj.length * 5 + 1) (.int .u8 l[j].hi.toNat)) true)).put lb
        (.cells (((cs.set (lo + sj.length * 5) (.int .u8 l[j].lo.toNat)).set (lo + sj.length * 5 + 1) (.int .u8 l[j].hi.toNat)).set (lo + sj.length * 5 + 2) (.int .i64 (ss.length + 1 : Nat))) true)) := by
      refine (((e10.upd _).trans (Upd.put (S := fun b => (AV.slc (some (lb, lo)) (sj.length + 1) none 5).blk = some b) _ rfl fun c e => ?_)).trans (Upd.put _ rfl fun c e => ?_)).trans (Upd.put _ rfl fun c e => ?_)
      · have : h9.get lb = some (.cells c false) := e
        rw [hgB] at this; simp at this
      · rw [get_put_self] at e; simp at e
      · rw [get_put_self] at e; simp at e
    generalize ((((h9.bump 30).put lb (.cells (cs.set (lo + sj.length * 5) (.int .u8 l[j].lo.toNat)) true)).put lb (.cells ((cs.set (lo + sj.length * 5) (.int .u8 l[j].lo.toNat)).set (lo + sj.length * 5 + 1) (.int .u8 l[j].hi.toNat)) true)).put lb
        (.cells (((cs.set (lo + sj.length * 5) (.int .u8 l[j].lo.toNat)).set (lo + sj.length * 5 + 1) (.int .u8 l[j].hi.toNat)).set (lo + sj.length * 5 + 2) (.int .i64 (ss.length + 1 : Nat))) true)) = h11 at M2 uS ⊢
    have keep : ∀ b, b < h9.nxt → lb ≠ b → h11.get b = h9.get b := fun b hb hne => uS.get b hb (by simp [AV.blk]; exact hne)
    have V11 := V9.setSt (x' := ⟨l[j].lo, l[j].hi, (ss.length + 1 : Nat), [], 0⟩) (v' := v) hx hv (uS.weak fun b _ e => .inl e) (.inr (by
      rw [stCs_set _ _ _ V9.len]
      simpa [stC, st0] using M2)) ((V9.f _ _ v hx hv).upd uS fun b _ e e2 => (V9.fl _ v b hv e).1 e2) fun b e => .inl e
    have hset : (sj ++ [st0]).set sj.length ⟨l[j].lo, l[j].hi, (ss.length + 1 : Nat), [], 0⟩ = sj ++ [⟨l[j].lo, l[j].hi, (ss.length + 1 : Nat), [], 0⟩] := by simp
    have hvset : vs.set sj.length v = vs := by
      refine List.ext_getElem? fun i => ?_
      by_cases hi : sj.length = i
      · subst hi; rw [List.getElem?_set_self (by omega), hv]
      · rw [List.getElem?_set_ne hi]
    rw [hset, hvset] at V11
    have B11 : Nb h11 k (fun b => ((K b ∨ b = h.nxt) ∨ b = b6) ∨ b = b8) (sj ++ [⟨l[j].lo, l[j].hi, (ss.length + 1 : Nat), [], 0⟩]) ps :=
      ⟨Nat.lt_of_lt_of_le hk9 uS.nxt, _, _, _, (keep k hk9 lk).trans g9, V11, fun b hb => by obtain ⟨m1, m2⟩ := N9 b hb; exact ⟨Nat.lt_of_lt_of_le m1 uS.nxt, m2⟩⟩
    have n96 := (N9 b6 (.inl (.inr rfl))).1
    have n94 := (N9 h.nxt (.inl (.inl (.inr rfl)))).1
    have g116 := (keep b6 n96 l6).trans g96
    have g114 := (keep h.nxt n94 (fun e => nK h.nxt (.inl (.inl (.inr rfl))) (by rw [← e]; rfl))).trans g94
    have uj11 : Upd (¬ K ·) h h11 := uj9.trans (uS.weak fun b _ e hKb => nK b (.inl (.inl (.inl hKb))) e)
    simp (disch := first | ((try simp only [heapN]) <;> omega) | fail) only [go_sem, seval, g96]
    have e11 : Ext h11 (h11.add (.cells [.int .i64 sj.length] true)) := Ext.add _ _
    refine callV_ofU F_54 rfl ((freeA_uf B11 e11 (Nat.le_refl _) (by simp) (i := ss.length) (xs := [sj.length]) ?_ rfl get_add_self rfl ?_).mono ?_)
    · simp [← hsj, clsS_len]; omega
    · rw [wt_app]
      have h2 : wt [(⟨l[j].lo, l[j].hi, (ss.length + 1 : Nat), [], 0⟩ : St)] = 1 := rfl
      have h3 : [sj.length].length = 1 := rfl
      omega
    rintro v12 h12 ⟨u12, B12⟩
    have g126 := (u12.get b6 (Nat.lt_of_lt_of_le n96 uS.nxt) (by simp)).trans g116
    have g124 := (u12.get h.nxt (Nat.lt_of_lt_of_le n94 uS.nxt) (by simp)).trans g114
    simp (disch := first | ((try simp only [heapN]) <;> omega) | fail) only [go_sem, seval]
    refine AgainK.mk (l.length - (j + 1)) (by simp only; omega) ⟨j + 1, by omega, rfl, ?_, uj11.trans (u12.weak fun b _ h1 h2 => h1 (.inl (.inl (.inl h2)))), g126, g124, rfl, by simp [Has]⟩
    have : clsS ss.length (ss.length + 1) (ss ++ [st0, st0]) (l.take (j + 1)) = freeS (sj ++ [⟨l[j].lo, l[j].hi, (ss.length + 1 : Nat), [], 0⟩]) ss.length [sj.length] := by
      rw [List.take_add_one, List.getElem?_eq_getElem hjl, clsS, List.foldl_append]
      rw [clsS] at hsj
      rw [hsj]; rfl
    rw [this]
    exact B12.less fun b hb => .inl hb
  · have hjn : j = vn := by omega
    subst hjn
    have hpos : (j : Int) > 0 := by
      have : l.length ≠ 0 := fun e => hne (List.eq_nil_of_length_eq_zero e)
      omega
    simp (disch := first | ((try simp only [heapN]) <;> omega) | fail) only [go_sem, seval, hlt, gj6, gj4, hpos]
    rw [hn, List.take_length] at Bj
    have uP : Upd (· = h.nxt) hh (hh.put h.nxt (.cells [.int .i64 ss.length, .int .i64 (ss.length + 1 : Nat)] true)) := Upd.put _ rfl fun c e => by rw [gj4] at e; simp at e
    have njj := uj.nxt
    refine hQ _ _ ⟨uj.trans (uP.weak fun b _ e hKb => by have := hK b hKb; omega), Bj.upd uP (fun b e _ => .inl (.inr e)) fun b hb => ⟨?_, .inl (.inl (.inl hb))⟩, rfl⟩
    have := hK b hb
    simp; omega

/-- A box is made, and is none of the builder's. -/
theorem nb_box {h : Heap} {k : Nat} {K : Nat → Prop} {ss : List St} {ps : List Prt} (B : Nb h k K ss ps) (x : Blk) (cs : List AV) : ∃ h', h' = (h.add x).put h.nxt (.cells cs true) ∧ Ext h h' ∧ Nb h' k (fun b => K b ∨ b = h.nxt) ss ps ∧ h'.get h.nxt = some (.cells cs true) ∧ h.nxt < h'.nxt := by
  have e4 : Ext h ((h.add x).put h.nxt (.cells cs true)) := (Ext.add _ _).put (by omega)
  have hK : ∀ b, K b → b < h.nxt := fun b hb => by obtain ⟨_, _, _, _, _, _, N⟩ := B; exact (N b hb).1
  refine ⟨_, rfl, e4, B.upd (e4.upd fun _ => False) (fun _ f _ => f.elim) fun b hb => ?_, get_put_self, by simp⟩
  rcases hb with hb | rfl
  · exact ⟨by have := hK b hb; simp; omega, .inl hb⟩
  · exact ⟨by simp, .inr (Nat.le_refl _)⟩

/-- States of two pieces, and of one many times. -/
def joinS (ss : List St) (p q : Prt) : List St := freeS ss p.to_ [q.from_]
def altS (ss : List St) (p q : Prt) : List St := freeS (freeS (freeS (ss ++ [st0, st0]) ss.length [p.from_, q.from_]) p.to_ [ss.length + 1]) q.to_ [ss.length + 1]
def repS (op : Int) (ss : List St) (p : Prt) : List St :=
  let s1 := freeS (freeS (ss ++ [st0, st0]) ss.length [p.from_]) p.to_ [ss.length + 1]
  let s2 := if op = 5 then s1 else freeS s1 ss.length [ss.length + 1]
  if op = 6 then s2 else freeS s2 p.to_ [p.from_]

theorem two_uf {h : Heap} {k : Nat} {K : Nat → Prop} {ss : List St} {ps : List Prt} {p q : Prt} (B : Nb h k K ss (ps ++ [p, q])) {op : Int} (hop : op = 2 ∨ op = 3) (hp : p.from_ < ss.length ∧ p.to_ < ss.length) (hq : q.from_ < ss.length ∧ q.to_ < ss.length) (hl : ps.length ≤ 10000) (hw : wt ss + 10 ≤ 1000000) :
    UF T F 85 [.ptr (some (k, 0)), .int .i64 op] h fun v' h' => Upd (¬ K ·) h h' ∧ ∃ ss' r, (ss', r) = (if op = 2 then (joinS ss p q, (⟨p.from_, q.to_⟩ : Prt)) else (altS ss p q, ⟨ss.length, ss.length + 1⟩)) ∧ Nb h' k K ss' ps ∧ v' = .tup [.agg [.int .i64 r.from_, .int .i64 r.to_], .bool true] := by
  have hk := B.1
  have hsl := wt_len ss
  refine UF.gen fun Q hQ => UF.of (F_85) (c := _) rfl ?_
  unfold Try.f85
  simp only [List.length, Nat.reduceSub, Nat.reduceAdd, List.replicate, List.cons_append, List.nil_append]
  simp (disch := first | ((try simp only [heapN]) <;> omega) | fail) only [go_sem, seval]
  have e1 : Ext h (h.add (.cells [.int .i64 0, .int .i64 0] true)) := Ext.add _ _
  have hK : ∀ b, K b → b < h.nxt := fun b hb => by obtain ⟨_, _, _, _, _, _, N⟩ := B; exact (N b hb).1
  have B1 : Nb (h.add (.cells [.int .i64 0, .int .i64 0] true)) k (fun b => K b ∨ b = h.nxt) ss (ps ++ [p, q]) := B.upd (e1.upd fun _ => False) (fun _ f _ => f.elim) fun b hb => by
    rcases hb with hb | rfl
    · exact ⟨by have := hK b hb; simp; omega, .inl hb⟩
    · exact ⟨by simp, .inr (Nat.le_refl _)⟩
  refine callV_ofU F_89 rfl ((take_uf B1 (n := 2) (by simp) (by omega) (by simp; omega)).mono ?_)
  rintro v2 h2 ⟨u2, B2, w, rfl, Lw⟩
  simp (disch := first | ((try simp only [heapN]) <;> omega) | fail) only [go_sem, seval]
  have hps : (ps ++ [p, q]).length - 2 = ps.length := by simp
  rw [hps, List.take_left] at B2
  rw [hps, List.drop_left] at Lw
  have n2 := u2.nxt
  simp only [Heap.add_nxt] at n2
  have g4 : h2.get h.nxt = some (.cells [.int .i64 0, .int .i64 0] true) := (u2.get _ (by simp) (by simp)).trans get_add_self
  obtain ⟨wa, wn, wc, wz, rfl, hwn⟩ := Lw.form
  obtain ⟨wb, wo, wcs, wl, rfl, rfl, hwb, hwg, rfl, hw0, ht0, hc0⟩ := Lw.at_ (i := 0) (x := p) rfl (k := 2) rfl
  obtain ⟨_, _, _, _, e0, _, _, hwg', rfl, hw1, ht1, hc1⟩ := Lw.at_ (i := 1) (x := q) rfl (k := 2) rfl
  simp only [Option.some.injEq, Prod.mk.injEq] at e0
  obtain ⟨rfl, rfl⟩ := e0
  rw [hwg] at hwg'
  simp only [Option.some.injEq, Blk.cells.injEq, and_true] at hwg'
  subst hwg'
  have c00 := hc0 0 (by decide)
  have c01 := hc0 1 (by decide)
  have c10 := hc1 0 (by decide)
  have c11 := hc1 1 (by decide)
  simp only [Nat.zero_mul, Nat.one_mul, Nat.add_zero, List.getElem?_cons_zero, List.getElem?_cons_succ] at c00 c01 c10 c11
  have hwn2 : (wn : Int) = 2 := by simp at hwn; omega
  rcases hop with rfl | rfl
  · simp (disch := first | ((try simp only [heapN]) <;> omega) | fail) only [go_sem, seval]
    refine DrawU_of' (fun b => b = wb) [0, 0, 2, 6, 14, 0, 32, 96, 224, 480, 1023] (by rfl) (by rfl) (fun b hb => by subst hb; exact hwb) ?_
    simp (disch := first | ((try simp only [heapN]) <;> omega) | fail) only [go_sem, seval, hwn2]
    refine LoadK_ofU rfl rfl ?_
    simp (disch := first | ((try simp only [heapN]) <;> omega) | fail) only [go_sem, seval, hwg, c01, hwn2]
    refine LoadK_ofU rfl rfl ?_
    simp (disch := first | ((try simp only [heapN]) <;> omega) | fail) only [go_sem, seval, hwg, c10]
    have e3 : Ext h2 ((h2.bump 11).put (h2.nxt + 9) (.cells [.int .i64 q.from_] true)) := (Ext.bump _ _).put (by omega)
    refine callV_ofU F_54 rfl ((freeA_uf B2 e3 (b := h2.nxt + 9) (by omega) (by simp) hp.2 (n := 1) [q.from_] rfl get_put_self rfl (by simp; omega)).mono ?_)
    rintro v5 h5 ⟨u5, B5⟩
    have g5 := u5.frz _ _ hwb hwg
    refine ⟨fun b hb => by subst hb; exact g5.trans hwg.symm, ?_⟩
    simp (disch := first | ((try simp only [heapN]) <;> omega) | fail) only [go_sem, seval]
    refine DrawU_of' (fun b => b = wb) [0, 1, 3, 7, 0, 16, 48, 112, 255, 511, 1023] (by rfl) (by rfl) (fun b hb => by subst hb; exact Nat.lt_of_lt_of_le hwb u5.nxt) ?_
    simp (disch := first | ((try simp only [heapN]) <;> omega) | fail) only [go_sem, seval, hwn2]
    refine LoadK_ofU rfl rfl ?_
    simp (disch := first | ((try simp only [heapN]) <;> omega) | fail) only [go_sem, seval, g5, c00, hwn2]
    refine LoadK_ofU rfl rfl ?_
    simp (disch := first | ((try simp only [heapN]) <;> omega) | fail) only [go_sem, seval, g5, c11]
    have g54 := (u5.get h.nxt (by omega) (by simp)).trans g4
    simp (disch := first | ((try simp only [heapN]) <;> omega) | fail) only [go_sem, seval, g54]
    have wne : h.nxt ≠ wb := fun e => by rw [← e, g4] at hwg; simp at hwg
    have uP : Upd (· = h.nxt) h5 ((h5.bump 11).put h.nxt (.cells [.int .i64 p.from_, .int .i64 q.to_] true)) := ((Ext.bump h5 11).upd _).trans (Upd.put _ rfl fun c e => by have : h5.get h.nxt = some (.cells c false) := e; rw [g54] at this; simp at this)
    have u02 : Upd (¬ K ·) h h2 := (e1.upd _).trans (u2.weak fun b _ h1 h2 => h1 (.inl h2))
    have n5 := u5.nxt
    refine ⟨fun b hb => by subst hb; exact get_put_ne wne, hQ _ _ ⟨(u02.trans (u5.weak fun b _ h1 h2 => h1 (.inl h2))).trans (uP.weak fun b _ e hKb => by have := hK b hKb; omega), _, _, rfl, B5.upd uP (fun b e _ => .inr e) fun b hb => ⟨?_, .inl (.inl hb)⟩, rfl⟩⟩
    have := hK b hb
    simp; omega
  · simp (disch := first | ((try simp only [heapN]) <;> omega) | fail) only [go_sem, seval]
    refine callV_ofU F_52 rfl ((state_uf B2 (by omega)).mono ?_)
    rintro v5 h5 ⟨u5, B5, rfl⟩
    simp (disch := first | ((try simp only [heapN]) <;> omega) | fail) only [go_sem, seval]
    refine callV_ofU F_52 rfl ((state_uf B5 (by simp; omega)).mono ?_)
    rintro v6 h6 ⟨u6, B6, rfl⟩
    simp (disch := first | ((try simp only [heapN]) <;> omega) | fail) only [go_sem, seval]
    have hss2 : ss ++ [st0] ++ [st0] = ss ++ [st0, st0] := by simp
    have hsl2 : (ss ++ [st0]).length = ss.length + 1 := by simp
    rw [hss2] at B6
    obtain ⟨h7, e7, x7, B7, g78, n7⟩ := nb_box B6 (.cells [.int .i64 0, .int .i64 0] true) [.int .i64 ss.length, .int .i64 (ss.length + 1 : Nat)]
    rw [← e7]
    have u56 := u5.trans u6
    have n6 := u56.nxt
    generalize hb8 : h6.nxt = b8 at g78 n7 B7 ⊢
    have u27 := u56.trans (x7.upd _)
    have g7w := u27.frz _ _ hwb hwg
    have n27 := u27.nxt
    refine DrawU_of' (fun b => b = b8 ∨ b = wb) [0, 0, 2, 0, 8, 24, 56, 0, 128, 384, 896, 2040, 4095] (by rfl) (by rfl) (fun b hb => by rcases hb with rfl | rfl; exact n7; omega) ?_
    simp (disch := first | ((try simp only [heapN]) <;> omega) | fail) only [go_sem, seval]
    refine LoadK_ofU rfl (.inl rfl) ?_
    simp (disch := first | ((try simp only [heapN]) <;> omega) | fail) only [go_sem, seval, g78, hwn2]
    refine LoadK_ofU rfl (.inr rfl) ?_
    simp (disch := first | ((try simp only [heapN]) <;> omega) | fail) only [go_sem, seval, g7w, c00, hwn2]
    refine LoadK_ofU rfl (.inr rfl) ?_
    simp (disch := first | ((try simp only [heapN]) <;> omega) | fail) only [go_sem, seval, g7w, c10]
    refine callV_ofU F_54 rfl ((freeA_uf B7 ((Ext.bump _ _).put (by omega)) (b := h7.nxt + 11) (by omega) (by simp) (i := ss.length) (by simp) (n := 2) [p.from_, q.from_] rfl get_put_self rfl ?_).mono ?_)
    · rw [wt_app]; have : wt [st0, st0] = 2 := rfl; simp; omega
    rintro v9 h9 ⟨u9, B9⟩
    have g98 := (u9.get b8 n7 (by simp)).trans g78
    have g9w := u9.frz _ _ (by omega) g7w
    have n9 := u9.nxt
    refine ⟨fun b hb => by rcases hb with rfl | rfl; exact g98.trans g78.symm; exact g9w.trans g7w.symm, ?_⟩
    simp (disch := first | ((try simp only [heapN]) <;> omega) | fail) only [go_sem, seval]
    refine DrawU_of' (fun b => b = b8 ∨ b = wb) [0, 0, 2, 6, 14, 0, 32, 96, 255] (by rfl) (by rfl) (fun b hb => by rcases hb with rfl | rfl <;> omega) ?_
    simp (disch := first | ((try simp only [heapN]) <;> omega) | fail) only [go_sem, seval, hwn2]
    refine LoadK_ofU rfl (.inr rfl) ?_
    simp (disch := first | ((try simp only [heapN]) <;> omega) | fail) only [go_sem, seval, g9w, c01, hwn2]
    refine LoadK_ofU rfl (.inl rfl) ?_
    simp (disch := first | ((try simp only [heapN]) <;> omega) | fail) only [go_sem, seval, g98]
    refine callV_ofU F_54 rfl ((freeA_uf B9 ((Ext.bump _ _).put (by omega)) (b := h9.nxt + 7) (by omega) (by simp) (i := p.to_) (by simp [freeS_len]; omega) (n := 1) [ss.length + 1] rfl get_put_self rfl ?_).mono ?_)
    · have := wt_free (ss ++ [st0, st0]) ss.length [p.from_, q.from_]
      rw [wt_app] at this
      have h2 : wt [st0, st0] = 2 := rfl
      simp at this ⊢; omega
    rintro v10 h10 ⟨u10, B10⟩
    have g108 := (u10.get b8 (by omega) (by simp)).trans g98
    have g10w := u10.frz _ _ (by omega) g9w
    have n10 := u10.nxt
    refine ⟨fun b hb => by rcases hb with rfl | rfl; exact g108.trans g98.symm; exact g10w.trans g9w.symm, ?_⟩
    simp (disch := first | ((try simp only [heapN]) <;> omega) | fail) only [go_sem, seval]
    refine DrawU_of' (fun b => b = b8 ∨ b = wb) [0, 0, 2, 6, 14, 0, 32, 96, 255] (by rfl) (by rfl) (fun b hb => by rcases hb with rfl | rfl <;> omega) ?_
    simp (disch := first | ((try simp only [heapN]) <;> omega) | fail) only [go_sem, seval, hwn2]
    refine LoadK_ofU rfl (.inr rfl) ?_
    simp (disch := first | ((try simp only [heapN]) <;> omega) | fail) only [go_sem, seval, g10w, c11, hwn2]
    refine LoadK_ofU rfl (.inl rfl) ?_
    simp (disch := first | ((try simp only [heapN]) <;> omega) | fail) only [go_sem, seval, g108]
    refine callV_ofU F_54 rfl ((freeA_uf B10 ((Ext.bump _ _).put (by omega)) (b := h10.nxt + 7) (by omega) (by simp) (i := q.to_) (by simp [freeS_len]; omega) (n := 1) [ss.length + 1] rfl get_put_self rfl ?_).mono ?_)
    · have := wt_free (ss ++ [st0, st0]) ss.length [p.from_, q.from_]
      have h3 := wt_free (freeS (ss ++ [st0, st0]) ss.length [p.from_, q.from_]) p.to_ [ss.length + 1]
      rw [wt_app] at this
      have h2 : wt [st0, st0] = 2 := rfl
      simp at this h3 ⊢; omega
    rintro v11 h11 ⟨u11, B11⟩
    have g118 := (u11.get b8 (by omega) (by simp)).trans g108
    have n11 := u11.nxt
    have n5 := u5.nxt
    refine ⟨fun b hb => by rcases hb with rfl | rfl; exact g118.trans g108.symm; exact (u11.frz _ _ (by omega) g10w).trans g10w.symm, ?_⟩
    have u7B := (u9.trans u10).trans u11
    have u2B : Upd (fun b => ¬ (K b ∨ b = h.nxt)) h2 h11 := u27.trans (u7B.weak fun b _ h1 h2 => h1 (.inl h2))
    have g114 := (u2B.get h.nxt (by omega) (by simp)).trans g4
    simp (disch := first | ((try simp only [heapN]) <;> omega) | fail) only [go_sem, seval, g118, g114]
    have uP : Upd (· = h.nxt) h11 (h11.put h.nxt (.cells [.int .i64 ss.length, .int .i64 (ss.length + 1 : Nat)] true)) := Upd.put _ rfl fun c e => by rw [g114] at e; simp at e
    have u02 : Upd (¬ K ·) h h2 := (e1.upd _).trans (u2.weak fun b _ h1 h2 => h1 (.inl h2))
    refine hQ _ _ ⟨(u02.trans (u2B.weak fun b _ h1 h2 => h1 (.inl h2))).trans (uP.weak fun b _ e hKb => by have := hK b hKb; omega), _, _, rfl, B11.upd uP (fun b e _ => .inl (.inr e)) fun b hb => ⟨?_, .inl (.inl (.inl hb))⟩, rfl⟩
    have := hK b hb
    simp; omega

theorem many_uf {h : Heap} {k : Nat} {K : Nat → Prop} {ss : List St} {ps : List Prt} {p : Prt} (B : Nb h k K ss (ps ++ [p])) {op : Int} (hop : op = 4 ∨ op = 5 ∨ op = 6) (hp : p.from_ < ss.length ∧ p.to_ < ss.length) (hl : ps.length ≤ 10000) (hw : wt ss + 10 ≤ 1000000) :
    UF T F 86 [.ptr (some (k, 0)), .int .i64 op] h fun v' h' => Upd (¬ K ·) h h' ∧ Nb h' k K (repS op ss p) ps ∧ v' = .tup [.agg [.int .i64 ss.length, .int .i64 (ss.length + 1 : Nat)], .bool true] := by
  have hk := B.1
  have hsl := wt_len ss
  refine UF.gen fun Q hQ => UF.of (F_86) (c := _) rfl ?_
  unfold Try.f86
  simp only [List.length, Nat.reduceSub, Nat.reduceAdd, List.replicate, List.cons_append, List.nil_append]
  simp (disch := first | ((try simp only [heapN]) <;> omega) | fail) only [go_sem, seval]
  have e1 : Ext h (h.add (.cells [.int .i64 0, .int .i64 0] true)) := Ext.add _ _
  have hK : ∀ b, K b → b < h.nxt := fun b hb => by obtain ⟨_, _, _, _, _, _, N⟩ := B; exact (N b hb).1
  have B1 : Nb (h.add (.cells [.int .i64 0, .int .i64 0] true)) k (fun b => K b ∨ b = h.nxt) ss (ps ++ [p]) := B.upd (e1.upd fun _ => False) (fun _ f _ => f.elim) fun b hb => by
    rcases hb with hb | rfl
    · exact ⟨by have := hK b hb; simp; omega, .inl hb⟩
    · exact ⟨by simp, .inr (Nat.le_refl _)⟩
  refine callV_ofU F_89 rfl ((take_uf B1 (n := 1) (by simp) (by omega) (by simp; omega)).mono ?_)
  rintro v2 h2 ⟨u2, B2, w, rfl, Lw⟩
  simp (disch := first | ((try simp only [heapN]) <;> omega) | fail) only [go_sem, seval]
  have hps : (ps ++ [p]).length - 1 = ps.length := by simp
  rw [hps, List.take_left] at B2
  rw [hps, List.drop_left] at Lw
  have n2 := u2.nxt
  simp only [Heap.add_nxt] at n2
  have g4 : h2.get h.nxt = some (.cells [.int .i64 0, .int .i64 0] true) := (u2.get _ (by simp) (by simp)).trans get_add_self
  obtain ⟨wa, wn, wc, wz, rfl, hwn⟩ := Lw.form
  obtain ⟨wb, wo, wcs, wl, rfl, rfl, hwb, hwg, rfl, hw0, ht0, hc0⟩ := Lw.at_ (i := 0) (x := p) rfl (k := 2) rfl
  have c00 := hc0 0 (by decide)
  have c01 := hc0 1 (by decide)
  simp only [Nat.zero_mul, Nat.one_mul, Nat.add_zero, List.getElem?_cons_zero, List.getElem?_cons_succ] at c00 c01
  have hwn2 : (wn : Int) = 1 := by simp at hwn; omega
  refine callV_ofU F_52 rfl ((state_uf B2 (by omega)).mono ?_)
  rintro v5 h5 ⟨u5, B5, rfl⟩
  simp (disch := first | ((try simp only [heapN]) <;> omega) | fail) only [go_sem, seval]
  refine callV_ofU F_52 rfl ((state_uf B5 (by simp; omega)).mono ?_)
  rintro v6 h6 ⟨u6, B6, rfl⟩
  simp (disch := first | ((try simp only [heapN]) <;> omega) | fail) only [go_sem, seval]
  have hss2 : ss ++ [st0] ++ [st0] = ss ++ [st0, st0] := by simp
  have hsl2 : (ss ++ [st0]).length = ss.length + 1 := by simp
  rw [hss2] at B6
  obtain ⟨h7, e7, x7, B7, g78, n7⟩ := nb_box B6 (.cells [.int .i64 0, .int .i64 0] true) [.int .i64 ss.length, .int .i64 (ss.length + 1 : Nat)]
  rw [← e7]
  have u56 := u5.trans u6
  have n6 := u56.nxt
  generalize hb8 : h6.nxt = b8 at g78 n7 B7 ⊢
  have u27 := u56.trans (x7.upd _)
  have g7w := u27.frz _ _ hwb hwg
  have n27 := u27.nxt
  have n5 := u5.nxt
  refine DrawU_of' (fun b => b = b8 ∨ b = wb) [0, 0, 2, 0, 8, 24, 56, 120, 255] (by rfl) (by rfl) (fun b hb => by rcases hb with rfl | rfl; exact n7; omega) ?_
  simp (disch := first | ((try simp only [heapN]) <;> omega) | fail) only [go_sem, seval]
  refine LoadK_ofU rfl (.inl rfl) ?_
  simp (disch := first | ((try simp only [heapN]) <;> omega) | fail) only [go_sem, seval, g78, hwn2]
  refine LoadK_ofU rfl (.inr rfl) ?_
  simp (disch := first | ((try simp only [heapN]) <;> omega) | fail) only [go_sem, seval, g7w, c00, hwn2]
  refine callV_ofU F_54 rfl ((freeA_uf B7 ((Ext.bump _ _).put (by omega)) (b := h7.nxt + 7) (by omega) (by simp) (i := ss.length) (by simp) (n := 1) [p.from_] rfl get_put_self rfl ?_).mono ?_)
  · rw [wt_app]; have : wt [st0, st0] = 2 := rfl; simp; omega
  rintro v9 h9 ⟨u9, B9⟩
  have g98 := (u9.get b8 n7 (by simp)).trans g78
  have g9w := u9.frz _ _ (by omega) g7w
  have n9 := u9.nxt
  refine ⟨fun b hb => by rcases hb with rfl | rfl; exact g98.trans g78.symm; exact g9w.trans g7w.symm, ?_⟩
  simp (disch := first | ((try simp only [heapN]) <;> omega) | fail) only [go_sem, seval]
  refine DrawU_of' (fun b => b = b8 ∨ b = wb) [0, 0, 2, 6, 14, 0, 32, 96, 255] (by rfl) (by rfl) (fun b hb => by rcases hb with rfl | rfl <;> omega) ?_
  simp (disch := first | ((try simp only [heapN]) <;> omega) | fail) only [go_sem, seval, hwn2]
  refine LoadK_ofU rfl (.inr rfl) ?_
  simp (disch := first | ((try simp only [heapN]) <;> omega) | fail) only [go_sem, seval, g9w, c01, hwn2]
  refine LoadK_ofU rfl (.inl rfl) ?_
  simp (disch := first | ((try simp only [heapN]) <;> omega) | fail) only [go_sem, seval, g98]
  have w1 : wt (freeS (ss ++ [st0, st0]) ss.length [p.from_]) ≤ wt ss + 3 := by
    have := wt_free (ss ++ [st0, st0]) ss.length [p.from_]
    rw [wt_app] at this
    have h2 : wt [st0, st0] = 2 := rfl
    simp at this ⊢; omega
  refine callV_ofU F_54 rfl ((freeA_uf B9 ((Ext.bump _ _).put (by omega)) (b := h9.nxt + 7) (by omega) (by simp) (i := p.to_) (by simp [freeS_len]; omega) (n := 1) [ss.length + 1] rfl get_put_self rfl (by simp; omega)).mono ?_)
  rintro v10 h10 ⟨u10, B10⟩
  have g108 := (u10.get b8 (by omega) (by simp)).trans g98
  have g10w := u10.frz _ _ (by omega) g9w
  have n10 := u10.nxt
  refine ⟨fun b hb => by rcases hb with rfl | rfl; exact g108.trans g98.symm; exact g10w.trans g9w.symm, ?_⟩
  have u27' : Upd (fun b => ¬ (K b ∨ b = h.nxt)) h2 h10 := u27.trans ((u9.trans u10).weak fun b _ h1 h2 => h1 (.inl h2))
  have w2 : wt (freeS (freeS (ss ++ [st0, st0]) ss.length [p.from_]) p.to_ [ss.length + 1]) ≤ wt ss + 4 := by
    have := wt_free (freeS (ss ++ [st0, st0]) ss.length [p.from_]) p.to_ [ss.length + 1]
    simp at this ⊢; omega
  have l2 : (freeS (freeS (ss ++ [st0, st0]) ss.length [p.from_]) p.to_ [ss.length + 1]).length = ss.length + 2 := by simp [freeS_len]
  generalize hs1 : freeS (freeS (ss ++ [st0, st0]) ss.length [p.from_]) p.to_ [ss.length + 1] = s1 at B10 w2 l2
  have fin : ∀ s3 h11, s3 = repS op ss p → Nb h11 k (fun b => (K b ∨ b = h.nxt) ∨ b = b8) s3 ps → Upd (fun b => ¬ ((K b ∨ b = h.nxt) ∨ b = b8)) h10 h11 → Q (.tup [.agg [.int .i64 ss.length, .int .i64 (ss.length + 1 : Nat)], .bool true]) (h11.put h.nxt (.cells [.int .i64 ss.length, .int .i64 (ss.length + 1 : Nat)] true)) := by
    rintro s3 h11 rfl B11 u11
    have u2B : Upd (fun b => ¬ (K b ∨ b = h.nxt)) h2 h11 := u27'.trans (u11.weak fun b _ h1 h2 => h1 (.inl h2))
    have g114 := (u2B.get h.nxt (by omega) (by simp)).trans g4
    have n11 := u2B.nxt
    have uP : Upd (· = h.nxt) h11 (h11.put h.nxt (.cells [.int .i64 ss.length, .int .i64 (ss.length + 1 : Nat)] true)) := Upd.put _ rfl fun c e => by rw [g114] at e; simp at e
    have u02 : Upd (¬ K ·) h h2 := (e1.upd _).trans (u2.weak fun b _ h1 h2 => h1 (.inl h2))
    refine hQ _ _ ⟨(u02.trans (u2B.weak fun b _ h1 h2 => h1 (.inl h2))).trans (uP.weak fun b _ e hKb => by have := hK b hKb; omega), B11.upd uP (fun b e _ => .inl (.inr e)) fun b hb => ⟨?_, .inl (.inl (.inl hb))⟩, rfl⟩
    have := hK b hb
    simp; omega
  have r2s : repS op ss p = (if op = 6 then (if op = 5 then s1 else freeS s1 ss.length [ss.length + 1]) else freeS (if op = 5 then s1 else freeS s1 ss.length [ss.length + 1]) p.to_ [p.from_]) := by rw [← hs1]; rfl
  rcases hop with rfl | rfl | rfl
  · simp (disch := first | ((try simp only [heapN]) <;> omega) | fail) only [go_sem, seval, g108]
    refine callV_ofU F_54 rfl ((freeA_uf B10 (Ext.add _ _) (b := h10.nxt) (Nat.le_refl _) (by simp) (i := ss.length) (by omega) (n := 1) [ss.length + 1] rfl get_add_self rfl (by simp; omega)).mono ?_)
    rintro v11 h11 ⟨u11, B11⟩
    have g118 := (u11.get b8 (by omega) (by simp)).trans g108
    have g11w := u11.frz _ _ (by omega) g10w
    have n11 := u11.nxt
    have w3 : wt (freeS s1 ss.length [ss.length + 1]) ≤ wt ss + 5 := by
      have := wt_free s1 ss.length [ss.length + 1]
      simp at this ⊢; omega
    have l3 : (freeS s1 ss.length [ss.length + 1]).length = ss.length + 2 := by simp [freeS_len, l2]
    simp (disch := first | ((try simp only [heapN]) <;> omega) | fail) only [go_sem, seval]
    refine DrawU_of' (fun b => b = wb) [0, 0, 2, 6, 14, 0, 32, 96, 224, 480, 1023] (by rfl) (by rfl) (fun b hb => by subst hb; omega) ?_
    simp (disch := first | ((try simp only [heapN]) <;> omega) | fail) only [go_sem, seval, hwn2]
    refine LoadK_ofU rfl rfl ?_
    simp (disch := first | ((try simp only [heapN]) <;> omega) | fail) only [go_sem, seval, g11w, c01, hwn2]
    refine LoadK_ofU rfl rfl ?_
    simp (disch := first | ((try simp only [heapN]) <;> omega) | fail) only [go_sem, seval, g11w, c00]
    refine callV_ofU F_54 rfl ((freeA_uf B11 ((Ext.bump _ _).put (by omega)) (b := h11.nxt + 9) (by omega) (by simp) (i := p.to_) (by omega) (n := 1) [p.from_] rfl get_put_self rfl (by simp; omega)).mono ?_)
    rintro v12 h12 ⟨u12, B12⟩
    have g128 := (u12.get b8 (by omega) (by simp)).trans g118
    refine ⟨fun b hb => by subst hb; exact (u12.frz _ _ (by omega) g11w).trans (Eq.symm g11w), ?_⟩
    have u1012 := u11.trans u12
    have g4' := ((u27'.trans (u1012.weak fun b _ h1 h2 => h1 (.inl h2))).get h.nxt (by omega) (by simp)).trans g4
    simp (disch := first | ((try simp only [heapN]) <;> omega) | fail) only [go_sem, seval, g128, g4']
    exact fin _ _ (by rw [r2s]; rfl) B12 u1012
  · simp (disch := first | ((try simp only [heapN]) <;> omega) | fail) only [go_sem, seval, g108]
    refine DrawU_of' (fun b => b = wb) [0, 0, 2, 6, 14, 0, 32, 96, 224, 480, 1023] (by rfl) (by rfl) (fun b hb => by subst hb; omega) ?_
    simp (disch := first | ((try simp only [heapN]) <;> omega) | fail) only [go_sem, seval, hwn2]
    refine LoadK_ofU rfl rfl ?_
    simp (disch := first | ((try simp only [heapN]) <;> omega) | fail) only [go_sem, seval, g10w, c01, hwn2]
    refine LoadK_ofU rfl rfl ?_
    simp (disch := first | ((try simp only [heapN]) <;> omega) | fail) only [go_sem, seval, g10w, c00]
    refine callV_ofU F_54 rfl ((freeA_uf B10 ((Ext.bump _ _).put (by omega)) (b := h10.nxt + 9) (by omega) (by simp) (i := p.to_) (by omega) (n := 1) [p.from_] rfl get_put_self rfl (by simp; omega)).mono ?_)
    rintro v12 h12 ⟨u12, B12⟩
    have g128 := (u12.get b8 (by omega) (by simp)).trans g108
    refine ⟨fun b hb => by subst hb; exact (u12.frz _ _ (by omega) g10w).trans (Eq.symm g10w), ?_⟩
    have g4' := ((u27'.trans (u12.weak fun b _ h1 h2 => h1 (.inl h2))).get h.nxt (by omega) (by simp)).trans g4
    simp (disch := first | ((try simp only [heapN]) <;> omega) | fail) only [go_sem, seval, g128, g4']
    exact fin _ _ (by rw [r2s]; rfl) B12 u12
  · simp (disch := first | ((try simp only [heapN]) <;> omega) | fail) only [go_sem, seval, g108]
    refine callV_ofU F_54 rfl ((freeA_uf B10 (Ext.add _ _) (b := h10.nxt) (Nat.le_refl _) (by simp) (i := ss.length) (by omega) (n := 1) [ss.length + 1] rfl get_add_self rfl (by simp; omega)).mono ?_)
    rintro v11 h11 ⟨u11, B11⟩
    have g118 := (u11.get b8 (by omega) (by simp)).trans g108
    have g11w := u11.frz _ _ (by omega) g10w
    have n11 := u11.nxt
    have w3 : wt (freeS s1 ss.length [ss.length + 1]) ≤ wt ss + 5 := by
      have := wt_free s1 ss.length [ss.length + 1]
      simp at this ⊢; omega
    have l3 : (freeS s1 ss.length [ss.length + 1]).length = ss.length + 2 := by simp [freeS_len, l2]
    have g4' := ((u27'.trans (u11.weak fun b _ h1 h2 => h1 (.inl h2))).get h.nxt (by omega) (by simp)).trans g4
    simp (disch := first | ((try simp only [heapN]) <;> omega) | fail) only [go_sem, seval, g118, g4']
    exact fin _ _ (by rw [r2s]; rfl) B11 u11

end Go.Proofs.Ytenpjkinpecnfaa
