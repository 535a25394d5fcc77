/-
  What numbers make: kinds of tokens, their patterns, texts of few letters.
-/
import Derived.Test.YtenpjkinpecnfaaNfaU
import Derived.Test.YtenpjkinpecnfaaConv
import Derived.Test.YtenpjkinpecnfaaRexM
import Derived.KernelRfl
namespace Go.Proofs.Ytenpjkinpecnfaa
open Go Go.Am
set_option maxRecDepth 100000
set_option maxHeartbeats 4000000
set_option linter.unusedSimpArgs false
set_option linter.unusedVariables false

section
variable {T : TT} {F : Nat → Option Func} {P : Nat → Prop} {all l : List Oper} {bf : List Nat} {base i msk : Nat} {s : List AV} {h : Heap} {nb : List (Nat × Blk)} {Q : List AV → Heap → Prop} {d : Option Nat} {ty : TypeId} {pos : String} {after : Array Edge} {op : Op}
/-- What looks at nothing but what was newly made. -/
theorem UE_newQ {a : Nat} {blk : Blk} {v : AV} (hk : dkind T op = .quiet) (hn : newJ T all bf a i = true) (hm : (a, blk) ∈ nb) (hb : (bf.getD i 0).testBit a = true) (hv : ∀ g : Heap, g.get (base + a) = some blk → opA T (evalO s) op g = some (v, g))
    (w : @SetK (putA s d v) h ⟨fun s h => UE T F P all bf base l (i + 1) s h nb msk Q⟩) : UE T F P all bf base (⟨d, op, ty, pos, after, none⟩ :: l) i s h nb msk Q := by
  rw [UE]
  simp only [hk, wantedA, true_imp_iff, Bool.true_eq_false, false_imp_iff, and_true]
  exact ⟨v, .inl (.inr ⟨a, blk, hn, hm, hb, hv⟩), w⟩
end
theorem wrap_u8' {x : Int} (h1 : 0 ≤ x) (h2 : x ≤ 255) : IntKind.u8.wrap x = x := by
  unfold IntKind.wrap
  simp [IntKind.bits, IntKind.signed]
  omega
/-- A kind of tokens. -/
structure Tok where
  name : List UInt8
  rex : List UInt8
  skip : Bool
instance : Rep Tok := ⟨3, fun _ x cs => cs = [.str x.name, .str x.rex, .bool x.skip], fun e => by rw [e]; rfl, fun e => by rw [e]; rfl, fun e _ => e⟩
def blank : Tok := ⟨[98, 108, 97, 110, 107], [32, 43], true⟩
/-- Kinds that numbers make. -/
def MadeToks (ts : List Tok) : Prop := ∃ us, ts = us ++ [blank] ∧ 1 ≤ us.length ∧ us.length ≤ 3 ∧ ∀ u ∈ us, MadeRex u.rex ∧ u.skip = false

theorem Toks_uf {h : Heap} {k : Nat} {v : AV} {l : List UInt8} (P : Pk h k v l) (hl : l.length ≤ 1000) : UF T F 38 [.ptr (some (k, 0))] h fun v' h' => Upd (· = k) h h' ∧ Pk h' k v l ∧ ∃ ts, Lst h' v' ts ∧ MadeToks ts := by
  refine UF.genq fun Q hQ => UF.of (F_38) (c := _) rfl ?_
  unfold Try.f38
  simp only [List.length, Nat.reduceSub, Nat.reduceAdd, List.replicate, List.cons_append, List.nil_append]
  simp (disch := first | ((try simp only [heapN]) <;> omega) | fail) only [go_sem, seval]
  refine callV_ofU F_49 rfl ((Num_uf (m := 3) P hl (by omega)).mono ?_)
  rintro v1 h1 ⟨u1, P1, x, hx, rfl⟩
  simp (disch := first | ((try simp only [heapN]) <;> omega) | fail) only [go_sem, seval]
  have hx1 : ((x : Int) + 1) = ((x + 1 : Nat) : Int) := by omega
  rw [hx1]
  refine LoopU_while (fun m st hh => ∃ (us : List Tok) (w : AV), Upd (· = k) h hh ∧ Pk hh k v l ∧ us.length + m = x + 1 ∧ (∀ u ∈ us, MadeRex u.rex ∧ u.skip = false) ∧ LGrow h.nxt hh w us ∧ Keep st 29 [(0, .ptr (some (k, 0))), (3, w), (4, .int .i64 (m : Nat))]) (x + 1)
    ⟨[], _, u1, P1, by simp, by simp, LGrow.nil, rfl, by simp [Has]⟩ ?_
  rintro m st hh ⟨us, w, u2, P2, hm, hus, L, hk⟩
  obtain ⟨a, n, c, z, rfl, hn⟩ := L.form
  rw [hk.eq]
  obtain ⟨k0, k3, k4, -⟩ := hk.2
  simp only [slotsFrom, Nat.reduceAdd] at k0 k3 k4 ⊢
  simp only [k0, k3, k4]
  simp (disch := first | ((try simp only [heapN]) <;> omega) | fail) only [go_sem, seval]
  by_cases hgt : (m : Int) > 0
  · simp (disch := first | ((try simp only [heapN]) <;> omega) | fail) only [go_sem, seval, hgt]
    refine DrawU_of' (fun b => False) [0, 0, 2, 6, 14, 30, 62, 126, 0, 256, 1022, 2046, 4095, 8191] (by rfl) (by rfl) (fun b hb => hb.elim) ?_
    simp (disch := first | ((try simp only [heapN]) <;> omega) | fail) only [go_sem, seval]
    refine (UE_pure (op := Op.convert 3 5 (Operand.tmp 15)) (by rfl) (by rfl)).mpr ?_
    simp (disch := first | ((try simp only [heapN]) <;> omega) | fail) only [go_sem, seval]
    obtain ⟨ub, hu⟩ : ∃ ub : UInt8, IntKind.u8.wrap (97 + (n : Int)) = ub.toNat := ⟨UInt8.ofNat (97 + n), by
      rw [wrap_u8' (by omega) (by omega), UInt8.toNat_ofNat']; omega⟩
    rw [hu]
    refine UE_newQ (a := 5) (v := .str [ub]) (by rfl) (by rfl) (.head _) (by rfl) (fun g hg => ?_) ?_
    · have := conv_bs (l := [ub]) (n := 1) (c := some 1) hg rfl
      simp only [opA, evalO]; exact this
    have s1 : strOp .add [116] [ub] = some (.str [116, ub]) := strOp_add (by simp)
    simp (disch := first | ((try simp only [heapN]) <;> omega) | fail) only [go_sem, seval, s1]
    refine callV_ofU F_23 rfl ((Rex_uf (P2.ext (Ext.bump _ 14)) hl).mono ?_)
    rintro v3 h3 ⟨u3, P3, rx, rfl, hrx⟩
    simp (disch := first | ((try simp only [heapN]) <;> omega) | fail) only [go_sem, seval]
    refine ⟨fun b hb => hb.elim, ?_⟩
    have k0 := P2.lt
    have n2 := u2.nxt
    have n3 := u3.nxt
    have kh := P.lt
    simp only [bump_nxt] at n3
    have uE : Upd (· = k) hh h3 := ((Ext.bump hh 14).upd _).trans u3
    have uX := (uE.putNew (b := hh.nxt + 5) (by omega) (.cells [.int .u8 ub.toNat] true)).putNew (b := hh.nxt + 11) (by omega) (.cells [.str [116, ub], .str rx, .bool false] true)
    have PX := P2.putNew P3 uX (by rw [get_put_ne (by omega), get_put_ne (by omega)])
    have LX := L.upd uX fun b h1 _ h2 => by omega
    have hX : hh.nxt + 11 < ((h3.put (hh.nxt + 5) (.cells [.int .u8 ub.toNat] true)).put (hh.nxt + 11) (.cells [.str [116, ub], .str rx, .bool false] true)).nxt := by simp; omega
    have gX : ((h3.put (hh.nxt + 5) (.cells [.int .u8 ub.toNat] true)).put (hh.nxt + 11) (.cells [.str [116, ub], .str rx, .bool false] true)).get (hh.nxt + 11) = some (.cells [.str [116, ub], .str rx, .bool false] true) := get_put_self
    generalize ((h3.put (hh.nxt + 5) (.cells [.int .u8 ub.toNat] true)).put (hh.nxt + 11) (.cells [.str [116, ub], .str rx, .bool false] true)) = X at uX PX LX hX gX ⊢
    refine gappend (m := h.nxt) (xs := us) (ys := [(⟨[116, ub], rx, false⟩ : Tok)]) T_62 rfl T_73 rfl (by decide) (by decide) LX (LSlc.lit (b := hh.nxt + 11) (ls := [[.str [116, ub], .str rx, .bool false]]) hX gX rfl (Reps.one rfl) rfl rfl) (by omega) (by simp [roomA]; omega) ?_
    intro v' h' L' u' hb'
    have lk : ∀ b, (AV.slc a n c z).blk = some b → h.nxt ≤ b := fun b e => L.blk e
    have uA : Upd (· = k) h h' := (u2.trans uX).trans' u' fun b h1 h2 => by have := lk b h1; omega
    have hm1 : ((m : Int) - 1) = ((m - 1 : Nat) : Int) := by omega
    refine ⟨fun b hb => hb.elim, ?_⟩
    simp (disch := first | ((try simp only [heapN]) <;> omega) | fail) only [go_sem, seval, hm1]
    refine AgainK.mk (m - 1) (by simp only; omega) ⟨us ++ [⟨[116, ub], rx, false⟩], v', uA, PX.upd u' (fun e => by have := lk k e; omega), by simp; omega, fun u hu => ?_, L', rfl, by simp [Has]⟩
    rcases List.mem_append.1 hu with hu | hu
    · exact hus u hu
    · simp only [List.mem_singleton] at hu; subst hu; exact ⟨hrx, rfl⟩
  · simp (disch := first | ((try simp only [heapN]) <;> omega) | fail) only [go_sem, seval, hgt]
    have k0 := P2.lt
    have n2 := u2.nxt
    have kh := P.lt
    refine gappend (m := h.nxt) (xs := us) (ys := [blank]) T_62 rfl T_73 rfl (by decide) (by decide) (L.ext (Ext.add _ _)) (LSlc.lit (b := hh.nxt) (ls := [[.str [98, 108, 97, 110, 107], .str [32, 43], .bool true]]) (by simp) get_add_self rfl (Reps.one rfl) rfl rfl) (by simp; omega) (by simp [roomA]; omega) ?_
    intro v' h' L' u' hb'
    have lk : ∀ b, (AV.slc a n c z).blk = some b → h.nxt ≤ b := fun b e => L.blk e
    have uA : Upd (· = k) h h' := (u2.trans ((Ext.add hh _).upd _)).trans' u' fun b h1 h2 => by have := lk b h1; omega
    have PA : Pk h' k v l := (P2.ext (Ext.add _ _)).upd u' fun e => by have := lk k e; omega
    simp (disch := first | ((try simp only [heapN]) <;> omega) | fail) only [go_sem, seval]
    obtain ⟨h9, l9, n9, L9, u9⟩ := L'.frz
    refine hQ _ _ h9 l9 ⟨uA.trans' u9 fun b h1 h2 => by omega, PA.upd u9 fun e => by omega, _, L9, us, rfl, by omega, by omega, hus⟩

theorem refParse_frz {h : Heap} {s : List UInt8} : UF T F 25 [.str s] h fun v' h' => Ext h h' ∧ match parse s with
    | some l => ∃ v, v' = .tup [v, .bool true] ∧ Lst h' v l
    | none => v' = .tup [.slc none 0 (some 0) 0, .bool false] := by
  refine UF.lessQ (refParse_uf.mono ?_)
  rintro v' h' ⟨e, m⟩
  cases hp : parse s with
  | none => rw [hp] at m; exact ⟨h', Le.refl _, e, m⟩
  | some l =>
    rw [hp] at m
    obtain ⟨v, rfl, L⟩ := m
    obtain ⟨h9, l9, n9, L9, u9⟩ := L.frz
    exact ⟨h9, l9, ((e.upd (h.nxt ≤ ·)).trans (u9.weak fun b _ => And.left)).ext fun b hb => by omega, v, rfl, L9⟩

/-- Patterns of kinds. -/
def PatsOf (ts : List Tok) (ls : List (List Item)) : Prop := ls.length = ts.length ∧ ∀ (i : Nat) (t : Tok), ts[i]? = some t → parse t.rex = ls[i]?

theorem refPats_uf {h : Heap} {v : AV} {ts : List Tok} (sl : Lst h v ts) (hl : ts.length ≤ 1000) : UF T F 39 [v] h fun v' h' => Ext h h' ∧ ((∃ w ls, v' = .tup [w, .bool true] ∧ Lst h' w ls ∧ PatsOf ts ls) ∨ (v' = .tup [.slc none 0 (some 0) 0, .bool false] ∧ ∃ t ∈ ts, parse t.rex = none)) := by
  obtain ⟨a, n, c, z, rfl, hn⟩ := sl.form
  refine UF.genq fun Q hQ => UF.of (F_39) (c := _) rfl ?_
  unfold Try.f39
  simp only [List.length, Nat.reduceSub, Nat.reduceAdd, List.replicate, List.cons_append, List.nil_append]
  simp (disch := first | ((try simp only [heapN]) <;> omega) | fail) only [go_sem, seval]
  refine LoopU_while (fun m st hh => ∃ (i : Nat) (ls : List (List Item)) (w : AV), i ≤ ts.length ∧ m = ts.length - i ∧ Ext h hh ∧ ls.length = i ∧ (∀ j t, j < i → ts[j]? = some t → parse t.rex = ls[j]?) ∧ LGrow h.nxt hh w ls ∧
      Keep st 30 [(0, .slc a n c z), (4, w), (5, .int .i64 (i : Nat))]) ts.length
    ⟨0, [], _, by omega, by omega, Ext.refl _, rfl, fun j t h1 => by omega, LGrow.nil, rfl, by simp [Has]⟩ ?_
  rintro m st hh ⟨i, ls, w, hi, rfl, eh, hls, hps, L, hk⟩
  obtain ⟨wa, wn, wc, wz, rfl, hwn⟩ := L.form
  rw [hk.eq]
  obtain ⟨k0, k4, k5, -⟩ := hk.2
  simp only [slotsFrom, Nat.reduceAdd] at k0 k4 k5 ⊢
  simp only [k0, k4, k5]
  simp (disch := first | ((try simp only [heapN]) <;> omega) | fail) only [go_sem, seval]
  by_cases hlt : (i : Int) < (n : Int)
  · have hil : i < ts.length := by omega
    obtain ⟨b1, o1, cs1, l1, rfl, rfl, hb1, hg1, rfl, hr1, ht1, hc1⟩ := sl.at_ (i := i) (x := ts[i]) (List.getElem?_eq_getElem hil) (k := 3) rfl
    have c11 : cs1[o1 + i * 3 + 1]? = some (.str ts[i].rex) := hc1 1 (by decide)
    have g1 : hh.get b1 = _ := (eh.get _ hb1).trans hg1
    simp (disch := first | ((try simp only [heapN]) <;> omega) | fail) only [go_sem, seval, hlt, g1, Int.toNat_natCast, c11]
    refine callV_ofU F_25 rfl ((refParse_frz (s := ts[i].rex)).mono ?_)
    rintro v3 h3 ⟨e3, m3⟩
    simp (disch := first | ((try simp only [heapN]) <;> omega) | fail) only [go_sem, seval]
    have hti : ts[i]? = some ts[i] := List.getElem?_eq_getElem hil
    cases hp : parse ts[i].rex with
    | none =>
      rw [hp] at m3
      subst m3
      simp (disch := first | ((try simp only [heapN]) <;> omega) | fail) only [go_sem, seval]
      exact hQ _ _ h3 (Le.refl _) ⟨eh.trans e3, .inr ⟨rfl, ts[i], List.getElem_mem hil, hp⟩⟩
    | some l =>
      rw [hp] at m3
      obtain ⟨v4, rfl, L4⟩ := m3
      obtain ⟨a4, n4, c4, z4, rfl, hn4⟩ := L4.form
      simp (disch := first | ((try simp only [heapN]) <;> omega) | fail) only [go_sem, seval]
      refine gappend (m := h.nxt) (xs := ls) (ys := [l]) T_40 rfl T_28 rfl (by decide) (by decide) ((L.ext e3).ext (Ext.add _ _)) (LSlc.lit (b := h3.nxt) (ls := [[.slc a4 n4 c4 z4]]) (by simp) get_add_self rfl (Reps.one ⟨_, rfl, L4.ext (Ext.add _ _)⟩) rfl rfl) (by have := eh.nxt; have := e3.nxt; simp; omega) (by simp [roomA]; omega) ?_
      intro v' h' L' u' hb'
      have uA : Upd (h.nxt ≤ ·) h h' := ((eh.trans (e3.trans (Ext.add _ _))).upd _).trans' u' fun b h1 h2 => L.blk h1
      simp (disch := first | ((try simp only [heapN]) <;> omega) | fail) only [go_sem, seval]
      refine AgainK.mk (ts.length - (i + 1)) (by simp only; omega) ⟨i + 1, ls ++ [l], v', by omega, rfl, uA.ext fun b hb => by omega, by simp [hls], fun j t h1 h2 => ?_, L', rfl, by simp [Has]⟩
      by_cases hji : j = i
      · subst hji
        rw [hti] at h2; simp only [Option.some.injEq] at h2; subst h2
        rw [hp, List.getElem?_append_right (by omega), hls]; simp
      · rw [List.getElem?_append_left (by omega)]; exact hps j t (by omega) h2
  · simp (disch := first | ((try simp only [heapN]) <;> omega) | fail) only [go_sem, seval, hlt]
    have hin : i = ts.length := by omega
    obtain ⟨h9, l9, n9, L9, u9⟩ := L.frz
    exact hQ _ _ h9 l9 ⟨((eh.upd (h.nxt ≤ ·)).trans (u9.weak fun b _ => And.left)).ext fun b hb => by omega, .inl ⟨_, ls, rfl, L9, by omega, fun j t h1 => hps j t (by have := (List.getElem?_eq_some_iff.1 h1).1; omega) h1⟩⟩

theorem MadeRex.parse {s : List UInt8} (h : MadeRex s) : ∃ l, parse s = some l := by
  obtain ⟨l, hl⟩ := made_pat h
  refine ⟨l, hl.parse ?_⟩
  rcases h with rfl | ⟨h24, _⟩
  · simp
  · exact h24
theorem parse_blank : parse [32, 43] = some [⟨1, [⟨32, 32⟩]⟩, ⟨5, []⟩] := by kernel_rfl
/-- A list's patterns. -/
theorem rx_list : ∀ {ls : List (List Item)}, (∀ l ∈ ls, ∃ s, parse s = some l) → ∃ es : List Rx, ls = es.map Rx.items ∧ ∀ e ∈ es, Fit e
  | [], _ => ⟨[], rfl, by simp⟩
  | l :: ls, h => by
    obtain ⟨es, h1, h2⟩ := rx_list fun l h1 => h l (List.mem_cons_of_mem _ h1)
    obtain ⟨s, hs⟩ := h l (by simp)
    obtain ⟨e, he, rfl⟩ := parse_is hs
    have := parse_few hs
    refine ⟨e :: es, by simp [h1], fun x hx => ?_⟩
    rcases List.mem_cons.1 hx with rfl | hx
    · exact ⟨he, by omega, fun y hy => by have := (this.2.1 y hy).1; omega⟩
    · exact h2 x hx
theorem PatsOf.mem {ts : List Tok} {ls : List (List Item)} (h : PatsOf ts ls) : ∀ l ∈ ls, ∃ s, parse s = some l := by
  intro l hl
  obtain ⟨i, hi, rfl⟩ := List.getElem_of_mem hl
  have hi2 : i < ts.length := by have := h.1; omega
  exact ⟨_, (h.2 i ts[i] (List.getElem?_eq_getElem hi2)).trans (List.getElem?_eq_getElem hi)⟩

/-- Patterns that numbers make. -/
structure MadePats (es : List Rx) : Prop where
  fit : ∀ e ∈ es, Fit e
  few : 2 ≤ es.length ∧ es.length ≤ 4
  parsed : ∀ e ∈ es, ∃ s, parse s = some e.items
theorem MadeToks.pats {ts : List Tok} (h : MadeToks ts) {ls : List (List Item)} (hp : PatsOf ts ls) : ∃ es : List Rx, ls = es.map Rx.items ∧ MadePats es := by
  obtain ⟨es, h1, h2⟩ := rx_list hp.mem
  obtain ⟨us, rfl, u1, u2, u3⟩ := h
  have hl := hp.1
  rw [h1, List.length_map, List.length_append, List.length_singleton] at hl
  exact ⟨es, h1, h2, by omega, fun e he => hp.mem _ (by rw [h1]; exact List.mem_map_of_mem he)⟩
theorem MadeToks.ok {ts : List Tok} (h : MadeToks ts) : ∀ t ∈ ts, parse t.rex ≠ none := by
  obtain ⟨us, rfl, u1, u2, u3⟩ := h
  intro t ht
  rcases List.mem_append.1 ht with ht | ht
  · obtain ⟨l, hl⟩ := (u3 t ht).1.parse
    rw [hl]; simp
  · simp only [List.mem_singleton] at ht
    subst ht
    rw [show blank.rex = [32, 43] from rfl, parse_blank]; simp

def wordTab : List (List UInt8) := [[97], [98], [99], [43], [32], [48], [97, 98], [63]]
/-- A text of few letters. -/
def word (l : List UInt8) : List UInt8 := l.flatMap fun b => wordTab.getD (b.toNat % 8) []
theorem word_at : ∀ a : Nat, a < 8 → [AV.str [97], AV.str [98], AV.str [99], AV.str [43], AV.str [32], AV.str [48], AV.str [97, 98], AV.str [63]][(a : Int).toNat * 1]? = some (.str (wordTab.getD a [])) ∧ (wordTab.getD a []).length ≤ 2 ∧ 1 ≤ (wordTab.getD a []).length := by
  intro a ha
  have : a = 0 ∨ a = 1 ∨ a = 2 ∨ a = 3 ∨ a = 4 ∨ a = 5 ∨ a = 6 ∨ a = 7 := by omega
  rcases this with rfl | rfl | rfl | rfl | rfl | rfl | rfl | rfl <;> exact ⟨rfl, by decide, by decide⟩
theorem word_len : ∀ l : List UInt8, (word l).length ≤ 2 * l.length
  | [] => by simp [word]
  | b :: l => by
    have := word_len l
    have := (word_at (b.toNat % 8) (Nat.mod_lt _ (by decide))).2.1
    simp only [word, List.flatMap_cons, List.length_append, List.length_cons] at *
    omega
theorem Word_uf {h : Heap} {v : AV} {l : List UInt8} (hv : Lst h v l) (hl : l.length ≤ 1000) : UF T F 30 [v] h fun v' h' => Ext h h' ∧ v' = .str (word l) := by
  obtain ⟨a, n, c, z, rfl, hn⟩ := hv.form
  refine UF.gen fun Q hQ => UF.of (F_30) (c := _) rfl ?_
  unfold Try.f30
  simp only [List.length, Nat.reduceSub, Nat.reduceAdd, List.replicate, List.cons_append, List.nil_append]
  simp (disch := first | ((try simp only [heapN]) <;> omega) | fail) only [go_sem, seval]
  refine LoopU_while (fun m st hh => ∃ (i : Nat), i ≤ l.length ∧ m = l.length - i ∧ Ext h hh ∧ Keep st 22 [(0, .slc a n c z), (3, .str (word (l.take i))), (4, .int .i64 (i : Nat))]) l.length
    ⟨0, by omega, by omega, Ext.refl _, rfl, by simp [Has, word]⟩ ?_
  rintro m st hh ⟨i, hi, rfl, eh, hk⟩
  rw [hk.eq]
  obtain ⟨k0, k3, k4, -⟩ := hk.2
  simp only [slotsFrom, Nat.reduceAdd] at k0 k3 k4 ⊢
  simp only [k0, k3, k4]
  simp (disch := first | ((try simp only [heapN]) <;> omega) | fail) only [go_sem, seval]
  by_cases hlt : (i : Int) < (n : Int)
  · have hil : i < l.length := by omega
    obtain ⟨b1, o1, cs1, l1, rfl, rfl, hb1, hg1, rfl, hr1, ht1, hc1⟩ := hv.at_ (i := i) (x := l[i]) (List.getElem?_eq_getElem hil) (k := 1) rfl
    have c10 := hc1 0 (by decide)
    simp only [Nat.add_zero, List.getElem?_cons_zero] at c10
    have e1 := eh.trans (Ext.add hh (.cells [.str [97], .str [98], .str [99], .str [43], .str [32], .str [48], .str [97, 98], .str [63]] true))
    have g1 : (hh.add (.cells [.str [97], .str [98], .str [99], .str [43], .str [32], .str [48], .str [97, 98], .str [63]] true)).get b1 = _ := (e1.get _ hb1).trans hg1
    have hm8 : (l[i].toNat : Int).tmod 8 = ((l[i].toNat % 8 : Nat) : Int) := by rw [Int.ofNat_tmod]; rfl
    have hm0 : (0 : Int) ≤ ((l[i].toNat % 8 : Nat) : Int) := by omega
    have hm9 : ((l[i].toNat % 8 : Nat) : Int) < 8 := by omega
    obtain ⟨w1, w2, w3⟩ := word_at (l[i].toNat % 8) (by omega)
    have hw := word_len (l.take i)
    rw [List.length_take, Nat.min_eq_left hi] at hw
    have hs1 : strOp .add (word (l.take i)) (wordTab.getD (l[i].toNat % 8) []) = some (.str (word (l.take i) ++ wordTab.getD (l[i].toNat % 8) [])) := strOp_add (by omega)
    simp (disch := first | ((try simp only [heapN]) <;> omega) | fail) only [go_sem, seval, hlt, g1, Int.toNat_natCast, c10, hm8]
    rw [Int.toNat_natCast] at w1
    rw [w1]
    simp (disch := first | ((try simp only [heapN]) <;> omega) | fail) only [go_sem, seval, hs1]
    refine AgainK.mk (l.length - (i + 1)) (by simp only; omega) ⟨i + 1, by omega, rfl, e1, rfl, ?_⟩
    have : word (l.take (i + 1)) = word (l.take i) ++ wordTab.getD (l[i].toNat % 8) [] := by
      rw [List.take_add_one, List.getElem?_eq_getElem hil, Option.toList_some]
      simp only [word, List.flatMap_append, List.flatMap_cons, List.flatMap_nil, List.append_nil]
    simp [Has, this]
  · simp (disch := first | ((try simp only [heapN]) <;> omega) | fail) only [go_sem, seval, hlt]
    have : i = l.length := by omega
    subst this
    exact hQ _ _ ⟨eh, by rw [List.take_length]⟩

end Go.Proofs.Ytenpjkinpecnfaa
