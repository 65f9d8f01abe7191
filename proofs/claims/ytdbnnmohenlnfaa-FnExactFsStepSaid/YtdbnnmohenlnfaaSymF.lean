/- Slices and lengths; one operation; a region; code; its soundness. -/
import Derived.Test.YtdbnnmohenlnfaaSymE
import Derived.Deep.LoopGhost
import Derived.Orders
import Derived.Tactics
namespace Go.Sym
set_option linter.unusedVariables false
set_option linter.unusedSimpArgs false

section
variable {T : Tab} {P : Program} [hT : T.Ok P] {G : Nat → Prop} {L : Beta} {w0 w : World} {N : Nat} {st : St} {a : Act} {β : Beta}

/-! ### Slicing -/
def hiK (hi : Option V) (len : Nat) (K : Nat → Prop) : Prop :=
  match hi with
  | some (.sc (.int _ n)) => Side (0 ≤ n) ∧ Side (n ≤ len) ∧ K n.toNat
  | none => K len
  | _ => False
def loK (lo : Option V) (h : Nat) (K : Nat → Prop) : Prop :=
  match lo with
  | some (.sc (.int _ n)) => Side (0 ≤ n) ∧ Side (n ≤ h) ∧ K n.toNat
  | none => K 0
  | _ => False
def sliceK (T : Tab) (st : St) (t : TypeId) (v : V) (lo hi mx : Option V) (K : V → Prop) : Prop :=
  mx.isNone = true ∧
  match v with
  | .sc (.string s) => T.str t = true ∧ hiK hi s.size fun h => loK lo h fun l => K (.sc (.string (s.extract l h)))
  | .nil => (match T.elem t with | some e => (T.sz e).isSome | none => false) = true ∧ hiK hi 0 fun h => loK lo h fun l => K .nil
  | .row k b len => (match T.elem t, lkB st.hs k with | some e, some (.row s _) => T.sz e == some s | _, _ => false) = true ∧ hiK hi len fun h => loK lo h fun l => K (.row k (b + l) (h - l))
  | .rd s xs => (match T.elem t with | some e => T.sz e == some s | none => false) = true ∧ hiK hi xs.length fun h => loK lo h fun l => K (.rd s ((xs.drop l).take (h - l)))
  | _ => False

def ORel (G : Nat → Prop) (L : Beta) (w0 w : World) (β : Beta) : Option V → Option Value → Prop
  | none, none => True
  | some v, some x => OKW G L w0 w β v x
  | _, _ => False
theorem Abs.evo (h : Abs G L w0 N st a w β) (x : Option Operand) : ORel G L w0 w β (x.map (Sym.ev st)) (x.map a.eval) := by
  cases x with
  | none => trivial
  | some x => exact h.ev x

theorem run_bound {v : V} {x : Value} {y : Nat} {code : BoundsCode} {k : IntKind} {n : Int} (hv : v = .sc (.int k n)) (hr : OKW G L w0 w β v x) (h0 : 0 ≤ n) (h1 : n ≤ y) (w : World) : (Instr.sliceBound x y code).run P w = .ok n.toNat w := by
  subst hv
  cases hr with
  | sc _ =>
  have hc : 0 ≤ n ∧ n ≤ (y : Int) := ⟨h0, h1⟩
  simp [Instr.sliceBound, asIntOf, hc]

theorem bounds_run {lo hi : Option V} {lx hx : Option Value} {len cap : Nat} {isS : Bool} {K : Nat → Nat → Prop} (hl : ORel G L w0 w β lo lx) (hh : ORel G L w0 w β hi hx) (hc : len ≤ cap) (hk : hiK hi len fun h => loK lo h fun l => K l h) :
    ∃ l h, l ≤ h ∧ h ≤ len ∧ K l h ∧ ∀ w : World, (Instr.sliceBounds isS len cap lx hx none).run P w = .ok (l, h, cap) w := by
  unfold Instr.sliceBounds
  unfold hiK at hk
  split at hk
  · rename_i k n
    obtain ⟨⟨g1⟩, ⟨g2⟩, hk⟩ := hk
    cases hx with
    | none => exact hh.elim
    | some hx =>
    have b1 : ∀ c (w : World), (Instr.sliceBound hx cap c).run P w = .ok n.toNat w := fun c w => run_bound rfl hh g1 (by omega) w
    unfold loK at hk
    split at hk
    · rename_i k' n'
      obtain ⟨⟨q1⟩, ⟨q2⟩, hk⟩ := hk
      cases lx with
      | none => exact hl.elim
      | some lx =>
      have b2 : ∀ c (w : World), (Instr.sliceBound lx n.toNat c).run P w = .ok n'.toNat w := fun c w => run_bound rfl hl q1 q2 w
      exact ⟨n'.toNat, n.toNat, by omega, by omega, hk, fun w => by simp [b1, b2]⟩
    · cases lx with
      | some lx => exact hl.elim
      | none => exact ⟨0, n.toNat, by omega, by omega, hk, fun w => by simp [b1]⟩
    · exact hk.elim
  · cases hx with
    | some hx => exact hh.elim
    | none =>
    unfold loK at hk
    split at hk
    · rename_i k' n'
      obtain ⟨⟨q1⟩, ⟨q2⟩, hk⟩ := hk
      cases lx with
      | none => exact hl.elim
      | some lx =>
      have b2 : ∀ c (w : World), (Instr.sliceBound lx len c).run P w = .ok n'.toNat w := fun c w => run_bound rfl hl q1 q2 w
      exact ⟨n'.toNat, len, by omega, by omega, hk, fun w => by simp [b2]⟩
    · cases lx with
      | some lx => exact hl.elim
      | none => exact ⟨0, len, by omega, by omega, hk, fun w => by simp⟩
    · exact hk.elim
  · exact hk.elim

theorem run_slice_slice {t e : TypeId} {s : Nat} {A : Option Addr} {len cap l h : Nat} {lx hx : Option Value} (he : P.underlying t = some (.slice e)) (hs : T.sz e = some s) (hb : (Instr.sliceBounds true len cap lx hx none).run P w = .ok (l, h, cap) w) :
    (Instr.sliceAt t (.slice A len cap) lx hx none).run P w = .ok (.slice (if cap = l then A else A.map (·.add (l * s))) (h - l) (cap - l)) w := by
  simp [Instr.sliceAt, run_underlying he, Instr.slice, hb, run_sizeOf hs]

theorem sliceK_sound {t : TypeId} {v : V} {x : Value} {lo hi mx : Option V} {lx hx mxx : Option Value} {K : V → St → Prop} (h : Abs G L w0 N st a w β) (hv : OKW G L w0 w β v x)
    (hl : ORel G L w0 w β lo lx) (hh : ORel G L w0 w β hi hx) (hm : ORel G L w0 w β mx mxx)
    (hk : sliceK T st t v lo hi mx fun u => K u st) : StepP P G L w0 w β (do let z ← Instr.sliceAt t x lx hx mxx; pure (Next.value z)) (fun u => K u st) := by
  obtain ⟨hmx, hk⟩ := hk
  have : mxx = none := by
    cases mx with
    | some _ => simp at hmx
    | none => cases mxx with
      | some _ => exact hm.elim
      | none => rfl
  subst this
  split at hk
  · rename_i s
    obtain ⟨ht, hk⟩ := hk
    cases hv with
    | sc _ =>
    obtain ⟨l, q, h1, h2, h3, h4⟩ := bounds_run (P := P) (isS := false) hl hh (Nat.le_refl _) hk
    refine StepP.mk (fun w' _ => run_v (x := .string (s.extract l q)) ?_) (.sc rfl) h3
    simp [Instr.sliceAt, run_underlying (tstr_some ht), Instr.slice, h4]
  · obtain ⟨ht, hk⟩ := hk
    cases hv with
    | nil =>
    rename_i A
    obtain ⟨l, q, h1, h2, h3, h4⟩ := bounds_run (P := P) (isS := true) hl hh (Nat.le_refl _) hk
    have hq : q = 0 := by omega
    have hl0 : l = 0 := by omega
    subst hq; subst hl0
    split at ht
    · rename_i e he
      obtain ⟨s, hs⟩ := Option.isSome_iff_exists.1 ht
      refine StepP.mk (fun w' _ => run_v (run_slice_slice (telem_some he) hs (h4 w'))) ?_ h3
      exact .nil
    · cases ht
  · rename_i k b len
    obtain ⟨ht, hk⟩ := hk
    split at ht
    · rename_i e s0 xs0 he hB
      have ht := beq_iff_eq.1 ht
      obtain ⟨inf, r1, r2⟩ := h.hr.rel k _ hB
      cases hv with
      | rowZ hb =>
        obtain ⟨l, q, h1, h2, h3, h4⟩ := bounds_run (P := P) (isS := true) hl hh (Nat.le_refl _) hk
        have hq : q = 0 := by omega
        have hl0 : l = 0 := by omega
        subst hq; subst hl0
        refine StepP.mk (fun w' _ => run_v (run_slice_slice (telem_some he) ht (h4 w'))) ?_ h3
        exact .rowZ hb
      | row g1 gm g2 g3 g4 =>
        rename_i bb o s m cap C tt fr
        rw [g1] at r1
        cases r1
        cases r2 with
        | row q1 q2 q3 q4 =>
        obtain ⟨l, q, h1, h2, h3, h4⟩ := bounds_run (P := P) (isS := true) hl hh g2 hk
        refine StepP.mk (fun w' _ => run_v (run_slice_slice (telem_some he) ht (h4 w'))) ?_ h3
        by_cases hcl : cap = l
        · have hz : q - l = 0 := by omega
          rw [if_pos hcl, hz, hcl, Nat.sub_self]
          exact .rowZ g1
        · rw [if_neg hcl]
          have := VRel.row (ok := okF G L w0 w β) (lo := b + l) (len := q - l) (cap := cap - l) g1 (by omega) (by omega) g3 (by
            have : b + l + (cap - l) = b + cap := by omega
            rw [this]; exact g4)
          rw [Nat.add_mul, ← Nat.add_assoc] at this
          simpa [add_at] using this
    · cases ht
  · rename_i s xs
    obtain ⟨ht, hk⟩ := hk
    split at ht
    · rename_i e he
      have ht := beq_iff_eq.1 ht
      generalize hlen : xs.length = n at *
      cases hv with
      | rd g1 g2 g3 g4 g5 =>
      rename_i A cap
      subst hlen
      obtain ⟨l, q, h1, h2, h3, h4⟩ := bounds_run (P := P) (isS := true) hl hh g1 hk
      refine StepP.mk (fun w' _ => run_v (run_slice_slice (telem_some he) ht (h4 w'))) ?_ h3
      have hn : ((xs.drop l).take (q - l)).length = q - l := by simp; omega
      have hget : ∀ i, i < q - l → ((xs.drop l).take (q - l)).getD i [] = xs.getD (l + i) [] := by
        intro i hi
        simp [List.getD_eq_getElem?_getD, hi]
      by_cases hz : q - l = 0
      · have e0 : (xs.drop l).take (q - l) = [] := by rw [hz]; rfl
        rw [e0, hz]
        exact VRel.rd0
      · have hcl : ¬ cap = l := by omega
        rw [if_neg hcl]
        have hpos : 0 < xs.length := by omega
        obtain ⟨ga, gb, gc⟩ := g3 hpos
        obtain ⟨ad, rfl⟩ := Option.isSome_iff_exists.1 ga
        have gb' : ad.spot = none := gb
        have key : VRel (okF G L w0 w β) w β (.rd s ((xs.drop l).take (q - l))) (.slice ((some ad).map (·.add (l * s))) ((xs.drop l).take (q - l)).length (cap - l)) := by
          have ea : ∀ i j, ad.off + l * s + (i * s + j) = ad.off + ((l + i) * s + j) := by intro i j; rw [Nat.add_mul]; omega
          refine .rd (by rw [hn]; omega) (fun y hy => g2 y (List.mem_of_mem_drop (List.mem_of_mem_take hy))) (fun _ => ⟨rfl, by simp [adr, add_at gb'], by simpa [adr, add_at gb'] using gc⟩) ?_ ?_
          · intro i j hi hj
            rw [hn] at hi
            have := g4 (l + i) j (by omega) hj
            simpa [adr, add_at gb', ea] using this
          · intro i j hi hj
            rw [hn] at hi
            have := g5 (l + i) j (by omega) hj
            rw [hget i hi]
            simpa [adr, add_at gb', ea] using this
        rw [hn] at key
        exact key
    · cases ht
  · exact hk.elim
end
end Go.Sym
