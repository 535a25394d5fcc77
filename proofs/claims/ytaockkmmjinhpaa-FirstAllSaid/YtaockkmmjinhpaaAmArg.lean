/-
  The abstract machine: what a law is given.
-/
import Derived.Test.YtaockkmmjinhpaaAmSl
import Derived.WideShapes
import Derived.OpenShut
namespace Go.Am
open Go.RowKit
variable {P : Program} {T : TT} {F : Nat → Option Func}

theorem rowAt_off {fits : TypeId → Bool} : ∀ {d : Nat} {e : TypeId} {count off n : Nat}, rowAt P fits d e count off n = true → off ≤ count * P.cellsOf e
  | 0, _, _, _, _, h => by simp [rowAt] at h
  | d + 1, e, count, off, n, h => by
    unfold rowAt at h
    simp only at h
    split at h
    · simp at h
    · rename_i hs
      have hs : 0 < P.cellsOf e := Nat.pos_of_ne_zero hs
      simp only [Bool.or_eq_true, Bool.and_eq_true, beq_iff_eq, decide_eq_true_eq] at h
      have hd := Nat.div_add_mod off (P.cellsOf e)
      have hm := Nat.mod_lt off hs
      rcases h with ⟨⟨h1, h2⟩, _⟩ | ⟨h1, _⟩
      · have : off / P.cellsOf e ≤ count := by omega
        have := Nat.mul_le_mul_left (P.cellsOf e) this
        rw [Nat.mul_comm count]; omega
      · have : off / P.cellsOf e + 1 ≤ count := h1
        have := Nat.mul_le_mul_left (P.cellsOf e) this
        rw [Nat.mul_comm count]
        rw [Nat.mul_add] at this; omega

theorem liesAt_off : ∀ {d : Nat} {e : TypeId} {count off : Nat} {u : TypeId} {n : Nat}, liesAt P d e count off u n = true → off ≤ count * P.cellsOf e
  | 0, _, _, _, _, _, h => by simp [liesAt] at h
  | d + 1, e, count, off, u, n, h => by
    unfold liesAt at h
    simp only [Bool.or_eq_true] at h
    rcases h with h | h
    · exact rowAt_off h
    · split at h
      · exact liesAt_off h
      · simp at h

theorem has_off {w : World} {r : Reach} {base : Nat} {a : Addr} {e : TypeId} {n : Nat} (h : w.has P r base a e n) : ∃ c t fz, w.heap[a.block]? = some (.cells c t fz) ∧ a.spot = none ∧ a.off ≤ c.size := by
  obtain ⟨_, hs, row, cells, h1, h2⟩ := h
  unfold World.shape? at h1
  split at h1
  · rename_i c t fz hg
    simp only [Option.some.injEq, Prod.mk.injEq] at h1
    obtain ⟨rfl, rfl⟩ := h1
    refine ⟨c, t, fz, hg, hs, Nat.le_trans (liesAt_off h2) ?_⟩
    exact Nat.div_mul_le_self _ _
  · simp at h1

theorem slice_has {w : World} {base : Nat} {t e : TypeId} {a : Addr} {len cap : Nat} (ht : P.underlying t = some (.slice e)) (h : Value.okWide P w .any base t (.slice (some a) len cap)) : len ≤ cap ∧ w.has P .any base a e cap := by
  simp only [Value.okWide, ht, Cell.okWide, Cell.ok] at h
  exact ⟨h.1, h.2.2⟩

/-- A block that was there. -/
theorem Sim.frozen {w : World} {μ : Mu} {h : Heap} (S : Sim (.all w) μ h w) {cs : List AV} {L : Loc} (hx : ∀ ν, μ.le ν → BlkAt ν (Frz.all w).old w L (.cells cs false)) :
    μ.le (μ.upd h.nxt L) ∧ Sim (.all w) (μ.upd h.nxt L) (h.add (.cells cs false)) w := by
  have hm := Mu.le_upd S.dom (Nat.le_refl _) L
  refine ⟨hm, ?_, ?_, S.old, ?_, ?_, ?_, fun b hb => by simp [Frz.all] at hb, S.side⟩
  · intro b y e
    rw [Heap.get_add] at e
    split at e
    · rename_i hb; subst hb; simp at e; subst e
      exact ⟨_, Mu.upd_same _ _ _, hx _ hm⟩
    · rename_i hb
      obtain ⟨L, e1, e2⟩ := S.at_ b y e
      exact ⟨L, by rw [Mu.upd_ne _ _ hb]; exact e1, e2.mono hm rfl⟩
  · intro b c y z L' M e1 e2 e3 e4 hy hne
    rw [Heap.get_add] at e1 e2
    by_cases hb : h.nxt = b
    · subst hb
      rw [if_pos rfl] at e1
      simp only [Option.some.injEq] at e1; subst e1
      simp [Blk.mine] at hy
    · rw [if_neg hb] at e1
      rw [Mu.upd_ne _ _ hb] at e3
      by_cases hc : h.nxt = c
      · subst hc
        rw [if_pos rfl] at e2
        rw [Mu.upd_same] at e4; simp at e4; subst e4
        obtain ⟨L1, l1, l2⟩ := S.at_ b y e1
        rw [e3] at l1; simp at l1; subst l1
        have h1 := l2.ge hy
        intro e
        rw [e] at h1
        obtain ⟨arr, t, fz, h2, _⟩ := hx _ hm
        simp [Frz.all, h2] at h1
      · rw [if_neg hc] at e2
        rw [Mu.upd_ne _ _ hc] at e4
        exact S.apart b c y z L' M e1 e2 e3 e4 hy hne
  · intro b y L' q e1 e2
    simp only [Frz.all]
    cases w.heap[L'.blk]? <;> simp
  · intro b L' e
    by_cases hb : h.nxt = b
    · simp; omega
    · rw [Mu.upd_ne _ _ hb] at e; have := S.dom b L' e; simp; omega
  · intro b hb
    rw [Heap.get_add]; simp at hb
    rw [if_neg (by omega)]; exact S.live b (by omega)

def IsRow (k : IntKind) (w : World) (a : Option Addr) (len cap : Nat) (zs : List Int) : Prop :=
  (a = none ∧ len = 0 ∧ cap = 0 ∧ zs = []) ∨
  ∃ x, a = some x ∧ len ≤ cap ∧ cap ≤ maxLen ∧ zs.length = cap ∧ (∀ i, i < zs.length → w.cell? (x.add i) = some (.int k (zs.getD i 0))) ∧ ∀ n ∈ zs, (Lit.int k n).wf = true

/-- A slice of numbers that is given. -/
theorem arg_ints {w : World} {μ : Mu} {h : Heap} {base : Nat} {t e : TypeId} {k : IntKind} {a : Option Addr} {len cap : Nat} {zs : List Int} (S : Sim (.all w) μ h w) (ht : P.underlying t = some (.slice e))
    (hok : Value.okWide P w .any base t (.slice a len cap)) (hr : IsRow k w a len cap zs) :
    ∃ v' μ' h', μ.le μ' ∧ Ext h h' ∧ Sim (.all w) μ' h' w ∧ VR μ' v' (.slice a len cap) ∧ Slc h' v' 1 ((zs.take len).map fun z => [.int k z]) ∧ (zs.take len).length = len ∧ (∀ z ∈ zs.take len, k.min ≤ z ∧ z ≤ k.max) ∧ h'.nxt ≤ h.nxt + 1 := by
  rcases hr with ⟨rfl, rfl, rfl, rfl⟩ | ⟨x, rfl, hl, hm, hz, hcell, hwf⟩
  · refine ⟨.slc none 0 (some 0) 0, μ, h, Mu.le_refl _, Ext.refl _, S, ?_, Slc.nil, rfl, by simp, Nat.le_succ _⟩
    simp only [VR]; exact ⟨0, rfl, Nat.le_refl _, rfl⟩
  · obtain ⟨_, hh⟩ := slice_has ht hok
    obtain ⟨c, ty, fz, hg, hs, ho⟩ := has_off hh
    have hcell' : ∀ i, i < zs.length → c[x.off + i]? = some (.int k (zs.getD i 0)) := by
      intro i hi
      have := hcell i hi
      unfold World.cell? at this
      have hb : (x.add i).block = x.block := by unfold Addr.add; split <;> rfl
      have hof : (x.add i).off = x.off + i := by unfold Addr.add; split <;> simp_all
      rw [hb, hg] at this
      simp only at this
      split at this
      · simp at this
      · rw [hof] at this; exact this
    have hroom : x.off + cap ≤ c.size := by
      rcases Nat.eq_zero_or_pos cap with h0 | h0
      · omega
      · have := hcell' (cap - 1) (by omega)
        have := (Array.getElem?_eq_some_iff.1 this).1
        omega
    have hblk : ∀ ν, μ.le ν → BlkAt ν (Frz.all w).old w ⟨x.block, x.off, c.size⟩ (.cells (zs.map fun z => .int k z) false) := by
      intro ν _
      refine ⟨c, ty, fz, hg, rfl, by simp [hz]; exact hroom, fun i y hy => ?_, by simp⟩
      rw [List.getElem?_map] at hy
      cases hzi : zs[i]? with
      | none => rw [hzi] at hy; simp at hy
      | some z =>
        rw [hzi] at hy; simp at hy; subst hy
        have hi := (List.getElem?_eq_some_iff.1 hzi).1
        refine ⟨_, hcell' i hi, ?_⟩
        simp only [VR]
        rw [List.getD_eq_getElem?_getD, hzi]; rfl
    obtain ⟨h1, h2⟩ := S.frozen hblk
    have hlen : (zs.take len).length = len := by simp; omega
    refine ⟨.slc (some (h.nxt, 0)) len (some cap) 1, _, _, h1, Ext.add _ _, h2, ?_, ?_, hlen, fun z hz' => ?_, by simp⟩
    · simp only [VR]
      refine ⟨⟨x.block, x.off, c.size⟩, x.off, cap, Mu.upd_same _ _ _, ?_, hl, by simp; exact hroom, Nat.le_refl _, by simp, .inr rfl⟩
      cases x; simp at hs; subst hs; rfl
    · refine .inr ⟨h.nxt, 0, some cap, zs.map fun z => .int k z, false, by simp; omega, ⟨by simp, by rw [Heap.get_add, if_pos rfl], fun l hl => (by obtain ⟨z, _, rfl⟩ := List.mem_map.1 hl; rfl), by simp; omega, ?_⟩, fun c hc => by simp at hc; subst hc; simp; omega⟩
      have : ∀ (l : List Int), (l.map fun z => [AV.int k z]).flatten = l.map fun z => AV.int k z := by
        intro l; induction l with
        | nil => rfl
        | cons y l ih => simp [ih]
      rw [this, List.drop_zero, List.length_map, Nat.mul_one, hlen, List.map_take]
    · have := hwf z (List.mem_of_mem_take hz')
      simp only [Lit.wf, Bool.and_eq_true, decide_eq_true_eq] at this
      exact this

/-- Numbers of blocks are passed over. -/
theorem sim_lift {w : World} {μ : Mu} {h : Heap} {N : Nat} (S : Sim (.all w) μ h w) (hN : h.nxt ≤ N) : Sim (.all w) μ ⟨N, h.l⟩ w :=
  { at_ := S.at_, apart := S.apart, old := S.old, hid := S.hid, dom := fun b L e => Nat.lt_of_lt_of_le (S.dom b L e) hN, live := fun b hb => S.live b (Nat.le_trans hN hb),
    rsv := fun b e => ⟨(S.rsv b e).1, Nat.lt_of_lt_of_le (S.rsv b e).2 hN⟩, side := S.side }
theorem ext_lift {h : Heap} {N : Nat} (hN : h.nxt ≤ N) : Ext h ⟨N, h.l⟩ := ⟨hN, fun _ _ => rfl⟩

/-- A law, out of its weakest condition. -/
theorem law_wf (hM : P.follows .mixedOrders = true) (hT : TypesOk P T) (hF : FuncsOk P F) {f : Nat} {args : List AV} {h : Heap} (W : WF T F f args h fun v _ => v = .bool true) {w : World} {μ : Mu} {vargs : Array Value}
    (S : Sim (.all w) μ h w) (hargs : VRs μ args vargs.toList) : Calls P f vargs w fun e w' => e = .returned (.bool true) ∧ Below w.heap.size w w' := by
  obtain ⟨n, v, h', e, rfl⟩ := W
  exact law_of hM hT hF e S hargs

end Go.Am
