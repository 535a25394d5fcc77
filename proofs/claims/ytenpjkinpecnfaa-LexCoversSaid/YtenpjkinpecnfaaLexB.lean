/-
  Layer lex: a text's tokens.
-/
import Derived.Test.YtenpjkinpecnfaaLexA
import Derived.KernelRfl
namespace Go.Proofs.Ytenpjkinpecnfaa
open Go Go.Am
set_option maxRecDepth 100000
set_option maxHeartbeats 4000000
set_option linter.unusedSimpArgs false
set_option linter.unusedVariables false

section
variable {T : TT} {F : Nat → Option Func} {P : Nat → Prop} {all l : List Oper} {bf : List Nat} {base i msk : Nat} {s : List AV} {h : Heap} {nb : List (Nat × Blk)} {Q : List AV → Heap → Prop} {d : Option Nat} {ty : TypeId} {pos : String} {after : Array Edge}
@[go_sem ↓] theorem UE_part {x : Operand} {j : Nat} : UE T F P all bf base (⟨d, .extract x j, ty, pos, after, none⟩ :: l) i s h nb msk Q = @OBk (opA T (evalO s) (.extract x j) h) ⟨fun v _ => @SetK (putA s d v) h ⟨fun s h => UE T F P all bf base l (i + 1) s h nb msk Q⟩⟩ := UE_pure rfl rfl
end
theorem tokensOf_uf {h : Heap} {a : AV} {s : List UInt8} {an : Nat} {ac : Option Nat} {az : Nat} {ap : Option (Nat × Nat)} (ha : a = .slc ap an ac az) : UF T F 63 [a, .str s] h fun v' h' => Ext h h' ∧ h'.nxt = h.nxt + 2 ∧ v' = .func (.func 80) [.ptr (some (h.nxt + 1, 0)), .ptr (some (h.nxt, 0))] ∧ h'.get h.nxt = some (.cells [a] true) ∧ h'.get (h.nxt + 1) = some (.cells [.str s] true) := by
  subst ha
  refine UF.gen fun Q hQ => UF.of (F_63) (c := _) rfl ?_
  unfold Try.f63
  simp only [List.length, Nat.reduceSub, Nat.reduceAdd, List.replicate, List.cons_append, List.nil_append]
  simp (disch := first | ((try simp only [heapN]) <;> omega) | fail) only [go_sem, seval]
  refine hQ _ _ ⟨(Ext.add _ _).trans (Ext.add _ _), by simp, rfl, ?_, ?_⟩
  · rw [get_add_lt (by simp), get_add_self]
  · rw [← Heap.add_nxt h (.cells [.slc ap an ac az] true), get_add_self]

section
variable {sb rb l : Nat} {s : List UInt8} {rv : AV} {G : List St} {S : List (List Nat)} {R : List Row} {es : List Rx}
/-- The tokens are told one by one. -/
theorem tokens_uf (I : List Tk → Heap → Prop) (hs : s.length ≤ 1000) (W : RowFit G S R es)
    (hsb : ∀ {xs h}, I xs h → sb < h.nxt ∧ rb < h.nxt ∧ h.get sb = some (.cells [.str s] true) ∧ h.get rb = some (.cells [rv] true) ∧ Lst h rv R)
    (hext : ∀ {xs h h'}, I xs h → Ext h h' → I xs h')
    (yes : ∀ {xs h} (x : Tk), I xs h → xs.length < 1000 → UR T F l [.agg [.int .i64 x.kind, .int .i64 (x.at_ : Nat), .int .i64 (x.len : Nat)]] h fun v' h' => v' = .bool true ∧ I (xs ++ [x]) h')
    {h : Heap} (i0 : I [] h) :
    UF T F 80 [.func (.yield l) [], .ptr (some (sb, 0)), .ptr (some (rb, 0))] h fun _ h' => ∃ ts, Toks es s 0 ts ∧ I ts h' := by
  refine UF.gen fun Q hQ => UF.of (F_80) (c := _) rfl ?_
  unfold Try.f80
  simp only [List.length, Nat.reduceSub, Nat.reduceAdd, List.replicate, List.cons_append, List.nil_append]
  simp (disch := first | ((try simp only [heapN]) <;> omega) | fail) only [go_sem, seval]
  refine LoopU_while (fun m st h1 => ∃ (i : Nat) (xs : List Tk), I xs h1 ∧ i ≤ s.length ∧ m = s.length - i ∧ xs.length ≤ i ∧ (∀ l, Toks es s i l → Toks es s 0 (xs ++ l)) ∧ Keep st 33 [(0, .func (.yield l) []), (1, .ptr (some (sb, 0))), (2, .ptr (some (rb, 0))), (4, .int .i64 (i : Nat))]) s.length
    ⟨0, [], i0, by omega, by omega, by simp, fun l h => h, rfl, by simp [Has]⟩ ?_
  rintro m st h1 ⟨i, xs, i1, hi, rfl, hxl, ht, hk⟩
  obtain ⟨n1, n2, g1, g2, L⟩ := hsb i1
  obtain ⟨ra, rn, rc, rz, rfl, hrn⟩ := L.form
  rw [hk.eq]
  obtain ⟨k0, k1, k2, k4, -⟩ := hk.2
  simp only [slotsFrom, Nat.reduceAdd] at k0 k1 k2 k4 ⊢
  simp only [k0, k1, k2, k4]
  simp (disch := first | ((try simp only [heapN]) <;> omega) | fail) only [go_sem, seval, g1]
  by_cases hlt : (i : Int) < (s.length : Int)
  · have hil : i < s.length := by omega
    simp (disch := first | ((try simp only [heapN]) <;> omega) | fail) only [go_sem, seval, hlt]
    refine DrawU_of' (fun b => b = sb ∨ b = rb) [0, 0, 0, 6, 15, 31, 63, 63, 63, 127, 767, 2047] (by rfl) (by rfl) (fun b hb => by rcases hb with rfl | rfl; exact n1; exact n2) ?_
    simp (disch := first | ((try simp only [heapN]) <;> omega) | fail) only [go_sem, seval]
    refine LoadK_ofU rfl (.inr rfl) ?_
    simp (disch := first | ((try simp only [heapN]) <;> omega) | fail) only [go_sem, seval, g2]
    refine LoadK_ofU rfl (.inl rfl) ?_
    simp (disch := first | ((try simp only [heapN]) <;> omega) | fail) only [go_sem, seval, g1]
    refine str_lo hi ?_
    simp (disch := first | ((try simp only [heapN]) <;> omega) | fail) only [go_sem, seval]
    refine callV_ofU F_36 rfl ((dBest_uf (s := s.drop i) (L.ext (Ext.bump h1 12)) W (by simp; omega)).mono ?_)
    rintro v3 h3 ⟨e3, k, n, ok, rfl, b⟩
    simp (disch := first | ((try simp only [heapN]) <;> omega) | fail) only [go_sem, seval]
    have eb : Ext h1 h3 := (Ext.bump _ _).trans e3
    refine ⟨fun b hb => by rcases hb with rfl | rfl; exact (e3.get _ (by simp; omega)).trans (by simp); exact (e3.get _ (by simp; omega)).trans (by simp), ?_⟩
    have i3 := hext i1 eb
    have step : ∀ (x : Tk) (i' : Nat), x.at_ = i → i < i' → i' ≤ s.length → (∀ l, Toks es s i' l → Toks es s i (x :: l)) → ∀ l, Toks es s i' l → Toks es s 0 ((xs ++ [x]) ++ l) := fun x i' _ _ _ h1 l h2 => by
      rw [List.append_assoc]; exact ht _ (h1 l h2)
    cases ok with
    | true =>
      obtain ⟨hn0, hnl, hk0⟩ := b.pos
      rw [List.length_drop] at hnl
      simp (disch := first | ((try simp only [heapN]) <;> omega) | fail) only [go_sem, seval]
      refine yieldU_of ((yes ⟨k, i, n⟩ i3 (by omega)).mono ?_)
      rintro v4 h4 ⟨rfl, i4⟩
      have hin : ((i : Int) + n) = ((i + n : Nat) : Int) := by omega
      simp (disch := first | ((try simp only [heapN]) <;> omega) | fail) only [go_sem, seval, hin]
      exact AgainK.mk (s.length - (i + n)) (by simp only; omega) ⟨i + n, _, i4, by omega, rfl, by simp; omega, step _ (i + n) rfl (by omega) (by omega) fun l h => .one hil b h, rfl, by simp [Has]⟩
    | false =>
      simp (disch := first | ((try simp only [heapN]) <;> omega) | fail) only [go_sem, seval]
      refine yieldU_of ((yes ⟨-1, i, 1⟩ i3 (by omega)).mono ?_)
      rintro v4 h4 ⟨rfl, i4⟩
      simp (disch := first | ((try simp only [heapN]) <;> omega) | fail) only [go_sem, seval]
      exact AgainK.mk (s.length - (i + 1)) (by simp only; omega) ⟨i + 1, _, i4, by omega, rfl, by simp; omega, step _ (i + 1) rfl (by omega) (by omega) fun l h => .bad hil b h, rfl, by simp [Has]⟩
  · simp (disch := first | ((try simp only [heapN]) <;> omega) | fail) only [go_sem, seval, hlt]
    have : i = s.length := by omega
    subst this
    exact hQ _ _ ⟨xs, by simpa using ht [] (.nil rfl), i1⟩
end

/-- What All keeps: at m the box of what is told, at m + 1 the rows', at m + 2 the text's, at m + 3 the marks, at m + 4 the loop. -/
structure Al (h0 h : Heap) (m : Nat) (s : List UInt8) (rv : AV) (R : List Row) (xs : List Tk) (q : LoopR) : Prop where
  n : m + 4 < h.nxt
  old : ∀ b, b < m → h.get b = h0.get b
  b0 : ∃ w, h.get m = some (.cells [w] true) ∧ LFresh (m + 5) h w xs
  b1 : h.get (m + 1) = some (.cells [rv] true)
  b2 : h.get (m + 2) = some (.cells [.str s] true)
  bd : h.get (m + 3) = some (.defers false)
  bl : h.get (m + 4) = some (.loop q)
  l : Lst h rv R
theorem Al.ext {h0 h h' : Heap} {m : Nat} {s : List UInt8} {rv : AV} {R : List Row} {xs : List Tk} {q : LoopR} (C : Al h0 h m s rv R xs q) (e : Ext h h') : Al h0 h' m s rv R xs q := by
  have n := C.n
  have g : ∀ b, b < m + 5 → h'.get b = h.get b := fun b hb => e.get b (by omega)
  obtain ⟨w, b0, bf⟩ := C.b0
  exact ⟨Nat.lt_of_lt_of_le n e.nxt, fun b hb => (g b (by omega)).trans (C.old b hb), ⟨w, (g m (by omega)).trans b0, bf.ext e⟩, (g _ (by omega)).trans C.b1, (g _ (by omega)).trans C.b2, (g _ (by omega)).trans C.bd, (g _ (by omega)).trans C.bl, C.l.ext e⟩

theorem All_uf {h : Heap} {rv : AV} {s : List UInt8} {G : List St} {S : List (List Nat)} {R : List Row} {es : List Rx} (sl : Lst h rv R) (W : RowFit G S R es) (hs : s.length ≤ 900) :
    UF T F 41 [rv, .str s] h fun v' h' => Ext h h' ∧ ∃ ts, Toks es s 0 ts ∧ Lst h' v' ts := by
  obtain ⟨ra, rn, rc, rz, rfl, hrn⟩ := sl.form
  refine UF.genq fun Q hQ => UF.of (F_41) (c := _) rfl ?_
  unfold Try.f41
  simp only [List.length, Nat.reduceSub, Nat.reduceAdd, List.replicate, List.cons_append, List.nil_append]
  simp (disch := first | ((try simp only [heapN]) <;> omega) | fail) only [go_sem, seval]
  refine callV_ofU F_63 rfl ((tokensOf_uf (s := s) rfl).mono ?_)
  rintro v1 h1 ⟨e1, n1, rfl, g1, g2⟩
  simp (disch := first | ((try simp only [heapN]) <;> omega) | fail) only [go_sem, seval]
  simp only [Heap.add_nxt] at n1 g1 g2
  have hv1 : h1.nxt = h.nxt + 3 := by omega
  refine LoopU_range rfl ?_
  generalize hq : LoopR.mk _ _ _ _ _ _ _ _ = q
  rw [hv1]
  have ea : Ext h h1 := (Ext.add _ _).trans e1
  have C0 : Al h ((h1.add (.defers false)).add (.loop q)) h.nxt s (.slc ra rn rc rz) R [] q := by
    have ge : ∀ b, b < h.nxt + 3 → ((h1.add (.defers false)).add (.loop q)).get b = h1.get b := fun b hb => by rw [get_add_lt (by simp; omega), get_add_lt (by omega)]
    refine ⟨by simp; omega, fun b hb => ?_, ⟨_, ?_, LFresh.nil⟩, ?_, ?_, ?_, ?_, sl.ext (ea.trans ((Ext.add _ _).trans (Ext.add _ _)))⟩
    · rw [ge b (by omega), ea.get b hb]
    · rw [ge _ (by omega), e1.get _ (by simp)]; exact get_add_self
    · rw [ge _ (by omega)]; exact g1
    · rw [ge _ (by omega)]; exact g2
    · rw [get_add_lt (by simp; omega), ← hv1]; exact get_add_self
    · have : h.nxt + 4 = (h1.add (.defers false)).nxt := by simp; omega
      rw [this]; exact get_add_self
  have yes : ∀ {xs : List Tk} {hh : Heap} (x : Tk), Al h hh h.nxt s (.slc ra rn rc rz) R xs q → xs.length < 1000 → UR T F (h.nxt + 4) [.agg [.int .i64 x.kind, .int .i64 (x.at_ : Nat), .int .i64 (x.len : Nat)]] hh fun v' h' => v' = .bool true ∧ Al h h' h.nxt s (.slc ra rn rc rz) R (xs ++ [x]) q := by
    intro xs hh x C hxs
    subst hq
    refine UR.of C.bl rfl ?_
    simp only [setAll]
    simp (disch := first | ((try simp only [heapN]) <;> omega) | fail) only [go_sem, seval]
    have n := C.n
    obtain ⟨w, b3, b4⟩ := C.b0
    obtain ⟨wa, wn, wc, wz, rfl, hwn⟩ := b4.form
    refine ⟨rfl, rfl, _, (get_put_ne (by omega)).trans ((get_add_lt (by omega)).trans C.bl), rfl, ?_⟩
    simp (disch := first | ((try simp only [heapN]) <;> omega) | fail) only [go_sem, seval, b3]
    generalize hX : Heap.put _ (h.nxt + 4) _ = X
    have gX := (congrArg (fun g => g.get (h.nxt + 4)) hX).symm.trans get_put_self
    have uX : Upd (· = h.nxt + 4) hh X := by
      subst hX
      refine (((Ext.add _ _).put (Nat.le_refl _)).upd _).trans (Upd.put _ rfl fun cs e => ?_)
      rw [get_put_ne (by omega), get_add_lt (by omega), C.bl] at e
      simp at e
    have LX : LFresh (h.nxt + 5) (X.add (.cells [.int .i64 x.kind, .int .i64 (x.at_ : Nat), .int .i64 (x.len : Nat)] true)) (.slc wa wn wc wz) xs := (b4.upd uX fun b hb _ e => by omega).ext (Ext.add _ _)
    have nX := uX.nxt
    have nXe : X.nxt = hh.nxt + 1 := by rw [← hX]; simp
    rw [← nXe]
    refine lappend (m := h.nxt + 5) (xs := xs) (ys := [x]) T_68 rfl T_71 rfl (by decide) (by decide) LX.own (LSlc.lit (b := X.nxt) (ls := [[.int .i64 x.kind, .int .i64 (x.at_ : Nat), .int .i64 (x.len : Nat)]]) (by simp) get_add_self rfl (Reps.one (x := x) rfl) rfl rfl) (by simp; omega) (by simp [roomA]; omega) ?_
    intro v2 h2 n2 r2 o2 c2 p2
    rcases c2 with ⟨c2, _⟩ | ⟨L2, _⟩
    · simp at c2
    obtain ⟨va, vn, vc, vz, rfl, hv2⟩ := L2.form
    have g2 : ∀ b, b < h.nxt + 5 → h2.get b = X.get b := fun b hb => by
      rw [r2 b (by simp; omega) (fun e => by have := LX.blk e; omega), get_add_lt (by omega)]
    have g3 : ∀ b, b < h.nxt + 4 → h2.get b = hh.get b := fun b hb => (g2 b (by omega)).trans (uX.get b (by omega) (by omega))
    have n2' : X.nxt < h2.nxt := by simp at n2; omega
    simp (disch := first | ((try simp only [heapN]) <;> omega) | fail) only [go_sem, seval, (g3 h.nxt (by omega)).trans b3]
    refine ⟨rfl, _, (get_put_ne (by omega)).trans ((g2 _ (by omega)).trans gX), rfl, ?_⟩
    generalize hY : Heap.put (Heap.put h2 h.nxt _) (h.nxt + 4) _ = Y
    have gY : ∀ b, b < h.nxt + 4 → b ≠ h.nxt → Y.get b = hh.get b := fun b hb hne => by
      rw [← hY, get_put_ne (by omega), get_put_ne (by omega), g3 b hb]
    have uY : Upd (fun b => b = h.nxt ∨ b = h.nxt + 4) h2 Y := by
      subst hY
      refine (Upd.put _ (.inl rfl) fun cs e => ?_).trans (Upd.put _ (.inr rfl) fun cs e => ?_)
      · rw [(g3 h.nxt (by omega)).trans b3] at e; simp at e
      · rw [get_put_ne (by omega), (g2 _ (by omega)).trans gX] at e; simp at e
    refine ⟨by rw [← hY]; simp; omega, fun b hb => ?_, ⟨.slc va vn vc vz, ?_, ?_⟩, ?_, ?_, ?_, ?_, ?_⟩
    · rw [gY b (by omega) (by omega)]; exact C.old b hb
    · rw [← hY, get_put_ne (by omega)]; exact get_put_self
    · exact L2.upd uY fun b hb _ e => by omega
    · rw [gY _ (by omega) (by omega)]; exact C.b1
    · rw [gY _ (by omega) (by omega)]; exact C.b2
    · rw [gY _ (by omega) (by omega)]; exact C.bd
    · rw [← hY]; exact get_put_self
    · exact ((C.l.pst uX.pst).pst ((Ext.add _ _).pst.trans p2)).pst uY.pst
  refine (tokens_uf (sb := h.nxt + 2) (rb := h.nxt + 1) (fun xs hh => Al h hh h.nxt s (.slc ra rn rc rz) R xs q) (by omega) W (fun C => ⟨by have := C.n; omega, by have := C.n; omega, C.b2, C.b1, C.l⟩) (fun C e => C.ext e) yes C0).mono ?_
  rintro _ h2 ⟨ts, ht, C⟩
  have hpend : q.pending = none := by rw [← hq]
  have hst : q.state = .ready := by rw [← hq]
  clear yes C0
  refine ⟨_, C.bl, by rw [hst]; simp, ?_⟩
  rw [hpend]
  have n := C.n
  obtain ⟨w, b3, b4⟩ := C.b0
  generalize hX : Heap.put h2 _ _ = X
  have uX : Upd (· = h.nxt + 4) h2 X := by
    subst hX
    exact Upd.put _ rfl fun cs e => by rw [C.bl] at e; simp at e
  have gX : ∀ b, b < h.nxt + 4 → X.get b = h2.get b := fun b hb => uX.get b (by omega) (by omega)
  have bX := b4.upd uX fun b hb _ e => by omega
  obtain ⟨wa, wn, wc, wz, rfl, hwn⟩ := b4.form
  have nX := uX.nxt
  simp (disch := first | ((try simp only [heapN]) <;> omega) | fail) only [go_sem, seval, (gX h.nxt (by omega)).trans b3]
  rw [callK_ret1 ((get_put_ne (by omega)).trans ((gX _ (by omega)).trans C.bd))]
  simp (disch := first | ((try simp only [heapN]) <;> omega) | fail) only [go_sem, seval, get_put_self]
  generalize hZ : Heap.put (Heap.put X _ _) _ _ = Z
  have uZ : Upd (fun b => b = h.nxt ∨ b = h.nxt + 3) X Z := by
    subst hZ
    refine (Upd.put _ (.inl rfl) fun cs e => ?_).trans (Upd.put _ (.inr rfl) fun cs e => ?_)
    · rw [(gX h.nxt (by omega)).trans b3] at e; simp at e
    · rw [get_put_ne (by omega), (gX _ (by omega)).trans C.bd] at e; simp at e
  obtain ⟨h9, l9, n9, L9, u9⟩ := (bX.upd uZ fun b hb _ e => by omega).frz
  have nZ := uZ.nxt
  refine hQ _ _ h9 l9 ⟨⟨by omega, fun b hb => ?_⟩, ts, ht, L9⟩
  rw [u9.get b (by omega) (by omega), uZ.get b (by omega) (by omega), gX b (by omega)]
  exact C.old b hb

end Go.Proofs.Ytenpjkinpecnfaa
