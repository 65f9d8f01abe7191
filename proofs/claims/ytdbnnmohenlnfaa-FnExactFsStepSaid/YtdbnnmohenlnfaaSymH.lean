/- One operation; a region; code; the soundness of the abstract walk. -/
import Derived.Test.YtdbnnmohenlnfaaSymO
import Derived.Laws.BytesString
namespace Go.Sym
set_option linter.unusedVariables false
set_option linter.unusedSimpArgs false

def lenK (T : Tab) (t : Option TypeId) (v : V) (K : V → Prop) : Prop :=
  match t with
  | none => False
  | some t =>
    match v with
    | .sc (.string s) => T.str t = true ∧ K (.sc (.int .i64 (s.size : Int)))
    | .row _ _ n => (T.elem t).isSome = true ∧ K (.sc (.int .i64 (n : Int)))
    | .rd _ xs => (T.elem t).isSome = true ∧ K (.sc (.int .i64 (xs.length : Int)))
    | .nil => (T.elem t).isSome = true ∧ K (.sc (.int .i64 0))
    | _ => match T.arr t with | some (n, _) => K (.sc (.int .i64 (n : Int))) | none => False

/-- The bytes of a row of bytes. -/
def bytesOf : List (List V) → Option (List Int)
  | [] => some []
  | [.sc (.int .u8 n)] :: r => (bytesOf r).map (n :: ·)
  | _ => none
def ofBytes (ns : List Int) : ByteArray := ns.foldl (fun r n => r.push (UInt8.ofNat n.toNat)) ByteArray.empty
/-- Conversions between numbers, between texts; bytes to a text. -/
def convK (T : Tab) (s t : TypeId) (v : V) (st : St) (K : V → Prop) : Prop :=
  match v with
  | .sc (.int _ n) => (T.int s).isSome = true ∧ (match T.int t with | some k => K (.sc (.int k (k.wrap n))) | _ => False)
  | .sc (.string x) => T.str t = true ∧ T.str s = true ∧ K (.sc (.string x))
  | .sc _ => False
  | v => match T.elem s with
    | some e => (match T.int e with
      | some .u8 => T.str t = true ∧ (match (conts st 1 v).bind bytesOf with | some ns => K (.sc (.string (ofBytes ns))) | none => False)
      | _ => False)
    | none => False

def arg0 (st : St) (xs : Array Operand) (i : Nat) : V := match xs[i]? with | some x => ev st x | none => .un
def minV (le : Bool) (x y : V) (K : V → Prop) : Prop :=
  match x, y with
  | .sc (.int k a), .sc (.int _ b) => K (.sc (.int k (if le then (if b < a then b else a) else (if a < b then b else a))))
  | _, _ => False
def builtinK (X : Bool) (T : Tab) (d : Nat) (b : Builtin) (ts : Array TypeId) (st : St) (xs : Array Operand) (K : V → St → Prop) : Prop :=
  match b with
  | .append => (ts.size == 2 && xs.size == 2) = true ∧ (match X, arg0 st xs 0 with
    | false, v => appendK T d (ts.getD 0 0) (ts.getD 1 0) v (arg0 st xs 1) st K
    | true, .nil => appendK T d (ts.getD 0 0) (ts.getD 1 0) .nil (arg0 st xs 1) st K
    | true, _ => False)
  | .min => (xs.size == 2) = true ∧ minV true (arg0 st xs 0) (arg0 st xs 1) fun v => K v st
  | .max => (xs.size == 2) = true ∧ minV false (arg0 st xs 0) (arg0 st xs 1) fun v => K v st
  | .len => Side (0 < xs.size) ∧ lenK T ts[0]? (arg0 st xs 0) fun v => K v st
  | _ => False
def callK (X : Bool) (T : Tab) (P : Program) (d : Nat) (c : Call) (st : St) (K : V → St → Prop) : Prop :=
  match c.callee with
  | .value f => (match ev st f with | .fn g caps => T.good g = true ∧ CallS X P g (c.args.toList.map (ev st) ++ caps) st K | _ => False)
  | .builtin b => builtinK X T d b c.argTypes st c.args K
  | _ => False

/-! ### Values and states are told in their plain form, step by step -/
def frcL : List V → (List V → Prop) → Prop
  | [], K => K []
  | v :: vs, K => frcL vs fun us => K (v :: us)
theorem frcL_eq : ∀ (l : List V) (K : List V → Prop), frcL l K = K l
  | [], K => rfl
  | v :: vs, K => by simp only [frcL]; rw [frcL_eq vs]
def V.frc (v : V) (K : V → Prop) : Prop :=
  match v with
  | .un => K .un
  | .sc a => K (.sc a)
  | .agg cs => frcL cs fun cs => K (.agg cs)
  | .tup cs => frcL cs fun cs => K (.tup cs)
  | .ptr k i j => K (.ptr k i j)
  | .nil => K .nil
  | .row k lo len => K (.row k lo len)
  | .rd s xs => K (.rd s xs)
  | .rp cs => frcL cs fun cs => K (.rp cs)
  | .fn f cs => frcL cs fun cs => K (.fn f cs)
  | .ifc t v => K (.ifc t v)
theorem V.frc_eq (v : V) (K : V → Prop) : v.frc K = K v := by cases v <;> simp only [V.frc, frcL_eq]
def Blk.frc (B : Blk) (K : Blk → Prop) : Prop :=
  match B with
  | .box cs => frcL cs fun cs => K (.box cs)
  | .row s xs => K (.row s xs)
theorem Blk.frc_eq (B : Blk) (K : Blk → Prop) : B.frc K = K B := by cases B <;> simp only [Blk.frc, frcL_eq]
def frcH : Hp → (Hp → Prop) → Prop
  | [], K => K []
  | (k, B) :: r, K => B.frc fun B => frcH r fun r => K ((k, B) :: r)
theorem frcH_eq : ∀ (l : Hp) (K : Hp → Prop), frcH l K = K l
  | [], K => rfl
  | (k, B) :: r, K => by simp only [frcH, Blk.frc_eq]; rw [frcH_eq r]
def frcT : List (Nat × V) → (List (Nat × V) → Prop) → Prop
  | [], K => K []
  | (n, v) :: r, K => v.frc fun v => frcT r fun r => K ((n, v) :: r)
theorem frcT_eq : ∀ (l : List (Nat × V)) (K : List (Nat × V) → Prop), frcT l K = K l
  | [], K => rfl
  | (n, v) :: r, K => by simp only [frcT, V.frc_eq]; rw [frcT_eq r]
def frcT1 (l : List (Nat × V)) (K : List (Nat × V) → Prop) : Prop := match l with | [] => K [] | p :: r => K (p :: r)
theorem frcT1_eq (l : List (Nat × V)) (K : List (Nat × V) → Prop) : frcT1 l K = K l := by cases l <;> rfl
/-- A value is put in its place. -/
def putK (o : Oper) (v : V) (s : St) (K : St → Prop) : Prop :=
  v.frc fun v => match s with
  | ⟨ts, hs⟩ => frcT1 ts fun ts => frcH hs fun hs => match o.dst with
    | some d => K ⟨(d, v) :: ts, hs⟩
    | none => K ⟨ts, hs⟩
def withDst (o : Oper) (K : Nat → Prop) : Prop := match o.dst with | some d => K d | none => K 0

def opK (X : Bool) (T : Tab) (P : Program) (d : Nat) (o : Oper) (st : St) (K : V → St → Prop) : Prop :=
  match o.op with
  | .move x => K (ev st x) st
  | .assign x => K (ev st x) st
  | .pick c x y => (match ev st c with | .sc (.bool b) => Br b (K (ev st x) st) (K (ev st y) st) | _ => False)
  | .alloc t => allocK T d t st K
  | .box t x => boxK d (ev st x) st K
  | .load t x => loadK T t (ev st x) st K
  | .store t x y => (match X with | false => (ev st y).frc fun u => storeK T t (ev st x) u st K | true => False)
  | .nilCheck x => nilCheckK (ev st x) fun v => K v st
  | .binOp op t x y _ => binK T op t (ev st x) (ev st y) fun v => K v st
  | .unOp op _ x => unK op (ev st x) fun v => K v st
  | .convert s t x => convK T s t (ev st x) st fun v => K v st
  | .slice t x lo hi mx => sliceK T st t (ev st x) (lo.map (ev st)) (hi.map (ev st)) (mx.map (ev st)) fun v => K v st
  | .fieldAddr t x f => faddrK T t f (ev st x) st K
  | .field t x f => fieldK T t f (ev st x) fun v => K v st
  | .indexAddr t x i => iaddrK T t (ev st x) (ev st i) st K
  | .index t x i => indexK T t (ev st x) (ev st i) fun v => K v st
  | .extract x i => extractK (ev st x) i fun v => K v st
  | .makeInterface t x => (T.elem t).isSome = true ∧ K (.ifc t (ev st x)) st
  | .makeFunc (.func f) first cs => first.isEmpty = true ∧ K (.fn f (cs.toList.map (ev st))) st
  | .call c => callK X T P d c st fun v s => frcT s.ts fun ts => K v ⟨ts, s.hs⟩
  | .build t ps => buildK T t (ps.toList.map fun (i, x) => (i, ev st x)) fun v => K v st
  | .buildSlice t n ps => bsliceK T d t n (ps.toList.map fun (i, x) => (i, ev st x)) st K
  | .makeSlice t l c => makeK T d t (ev st l) (ev st c) st K
  | _ => False

def putS (o : Oper) (v : V) (st : St) : St := match o.dst with | some d => { st with ts := (d, v) :: st.ts } | none => st
theorem putK_eq (o : Oper) (v : V) (s : St) (K : St → Prop) : putK o v s K = K (putS o v s) := by
  unfold putK putS
  rw [V.frc_eq]
  cases s
  simp only [frcT1_eq, frcH_eq]
  cases o.dst <;> rfl
theorem withDst_eq (o : Oper) (K : Nat → Prop) : withDst o K = K (o.dst.getD 0) := by unfold withDst; cases o.dst <;> rfl
def dstK (o : Oper) (N : Nat) : Bool := match o.dst with | some d => d < N | none => true
def opsK (T : Tab) (P : Program) (N : Nat) (ops : Array Oper) : List Oper → St → (St → Prop) → Prop
  | [], st, K => K st
  | o :: os, st, K =>
    dstK o N = true ∧
    match o.guard with
    | none => withDst o fun d => opK false T P d o st fun v s => putK o v s fun s => opsK T P N ops os s K
    | some (j, want) =>
      match (ops[j]?).bind (·.dst) with
      | some t =>
        (match lkV st.ts t with
         | .sc (.bool b) => (match want with
           | true => Br b (withDst o fun d => opK false T P d o st fun v s => putK o v s fun s => opsK T P N ops os s K) (putK o (.tup []) st fun s => opsK T P N ops os s K)
           | false => Br b (putK o (.tup []) st fun s => opsK T P N ops os s K) (withDst o fun d => opK false T P d o st fun v s => putK o v s fun s => opsK T P N ops os s K))
         | .tup _ => putK o (.tup []) st fun s => opsK T P N ops os s K
         | _ => False)
      | none => False

/-- One abstract state says no less than another. -/
def Ent (s s' : St) : Prop := ∀ (G : Nat → Prop) (L : Beta) (w0 : World) (N : Nat) (a : Act) (w : World) (β : Beta), Abs G L w0 N s a w β → ∃ β', Abs G L w0 N s' a w β'

def thenK (Q : Exit → St → Prop) (next : St → Prop) : Exit → St → Prop
  | .normal, s => next s
  | e, s => Q e s
def blockQ (id : Nat) (Q : Exit → St → Prop) : Exit → St → Prop
  | .exit i, s => if i = id then Q .normal s else Q (.exit i) s
  | e, s => Q e s
/-- For regions whose order is drawn: said elsewhere. -/
def DrawK (P : Program) (N : Nat) (ops : Array Oper) (st : St) (K : St → Prop) : Prop :=
  ∀ (G : Nat → Prop) (L : Beta) (w0 : World) (a : Act) (w : World) (β : Beta) (id : Nat), Abs G L w0 N st a w β → (Code.region id ops true).wp P (fun e a' w' => match e with | .normal => ∃ st' β', K st' ∧ Abs G L w0 N st' a' w' β' | _ => False) a w

def awp (T : Tab) (P : Program) (N : Nat) : Code → (Exit → St → Prop) → St → Prop
  | .skip, Q, st => Q .normal st
  | .region _ ops false, Q, st => opsK T P N ops ops.toList st (Q .normal)
  | .region _ ops true, Q, st => DrawK P N ops st (Q .normal)
  | .seq x y, Q, st => awp T P N x (thenK Q (awp T P N y Q)) st
  | .cond c x y, Q, st => (match ev st c with | .sc (.bool b) => Br b (awp T P N x Q st) (awp T P N y Q st) | _ => False)
  | .block id c, Q, st => awp T P N c (blockQ id Q) st
  | .loop c, Q, st => ∃ (I : Nat → St → Prop) (n0 : Nat) (s0 : St), Ent st s0 ∧ I n0 s0 ∧ ∀ n s, I n s → awp T P N c (thenK Q fun s' => ∃ n' s'', n' < n ∧ Ent s' s'' ∧ I n' s'') s
  | .exit id, Q, st => Q (.exit id) st
  | .ret, Q, st => Q .ret st
  | _, _, _ => False

section
variable {X : Bool} {T : Tab} {P : Program} [hT : T.Ok P] {G : Nat → Prop} {L : Beta} {w0 w : World} {N : Nat} {st : St} {a : Act} {β : Beta}

theorem lenK_sound {t : Option TypeId} {v : V} {x : Value} {ts : Array TypeId} {xs : Array Value} {ty : TypeId} {K : V → St → Prop} (h : Abs G L w0 N st a w β) (ht : t = ts[0]?) (hx : xs[0]? = some x) (hv : OKW G L w0 w β v x) (hk : lenK T t v fun u => K u st) :
    StepP P G L w0 w β (do let z ← Builtin.len_ ts ty xs; pure (Next.value z)) (fun u => K u st) := by
  unfold lenK at hk
  split at hk
  · exact hk.elim
  · rename_i t'
    split at hk
    · cases hv; exact StepP.mk (fun w' _ => run_v (by simp [Builtin.len_, ← ht, hx, run_underlying (tstr_some hk.1), goInt])) (.sc rfl) hk.2
    · obtain ⟨e, he⟩ := Option.isSome_iff_exists.1 hk.1
      cases hv <;> exact StepP.mk (fun w' _ => run_v (by simp [Builtin.len_, ← ht, hx, run_underlying (telem_some he), goInt]; try rfl)) (.sc rfl) hk.2
    · obtain ⟨e, he⟩ := Option.isSome_iff_exists.1 hk.1
      cases hv
      exact StepP.mk (fun w' _ => run_v (by simp [Builtin.len_, ← ht, hx, run_underlying (telem_some he), goInt]; try rfl)) (.sc rfl) hk.2
    · obtain ⟨e, he⟩ := Option.isSome_iff_exists.1 hk.1
      cases hv
      exact StepP.mk (fun w' _ => run_v (by simp [Builtin.len_, ← ht, hx, run_underlying (telem_some he), goInt]; try rfl)) (.sc rfl) hk.2
    · split at hk
      · rename_i n e ha
        exact StepP.mk (fun w' _ => run_v (by simp [Builtin.len_, ← ht, hx, run_underlying (tarr_some ha), goInt]; try rfl)) (.sc rfl) hk
      · exact hk.elim
theorem bytesOf_cells {p : Nat → Prop} {w : World} : ∀ {xs : List (List V)} {ns : List Int} {cs : List Value}, bytesOf xs = some ns → CellsOf p w 1 xs cs → cs = ns.map (Value.int .u8)
  | [], ns, cs, h, hc => by
    simp [bytesOf] at h
    subst h
    have := hc.1
    simp at this
    simp [this]
  | x :: r, ns, cs, h, hc => by
    unfold bytesOf at h
    split at h
    · rename_i e; cases e
    · rename_i n r' e
      cases e
      cases hr : bytesOf r with
      | none => rw [hr] at h; cases h
      | some ms =>
        rw [hr] at h
        cases h
        have hl := hc.1
        simp at hl
        cases cs with
        | nil => simp at hl
        | cons c cs =>
          have h0 := hc.2.2 0 0 (by simp) (by simp)
          simp at h0
          cases h0
          have : CellsOf p w 1 r cs := by
            refine ⟨by simp at hl ⊢; omega, fun x hx => hc.2.1 x (List.mem_cons_of_mem _ hx), fun i j hi hj => ?_⟩
            have := hc.2.2 (i + 1) j (by simp; omega) hj
            have e1 : (i + 1) * 1 + j = (i * 1 + j) + 1 := by omega
            rw [e1] at this
            simpa using this
          rw [bytesOf_cells hr this]
          rfl
    · cases h

theorem convK_sound {s t : TypeId} {v : V} {x : Value} {K : V → St → Prop} (h : Abs G L w0 N st a w β) (hv : OKW G L w0 w β v x) (hk : convK T s t v st fun u => K u st) :
    StepP P G L w0 w β (do let z ← convert s t x; pure (Next.value z)) (fun u => K u st) := by
  unfold convK at hk
  split at hk
  · cases hv
    obtain ⟨d, hd⟩ := Option.isSome_iff_exists.1 hk.1
    have hk := hk.2
    split at hk
    · rename_i ht
      exact StepP.mk (fun w' _ => run_v (by simp [convert, run_underlying (hT.int _ _ hd), run_underlying (hT.int _ _ ht), Conv.intToInt])) (.sc rfl) hk
    · exact hk.elim
  · cases hv
    obtain ⟨h1, h2, hk⟩ := hk
    exact StepP.mk (fun w' _ => run_v (by simp [convert, run_underlying (tstr_some h2), run_underlying (tstr_some h1)])) (.sc rfl) hk
  · exact hk.elim
  · rename_i hn1 hn2 hn3
    split at hk
    · rename_i e he
      split at hk
      · rename_i hu8
        obtain ⟨hts, hk⟩ := hk
        split at hk
        · rename_i ns hns
          obtain ⟨xs, hxs, hb⟩ := Option.bind_eq_some_iff.1 hns
          have hsl : ∃ A n cap, x = .slice A n cap := by
            cases hv <;> first
              | exact ⟨_, _, _, rfl⟩
              | (simp [conts] at hxs; done)
              | (exact absurd rfl (hn3 _))
          obtain ⟨A, n, cap, rfl⟩ := hsl
          refine StepP.mk (fun w' hE => run_v ?_) (.sc rfl) hk
          rw [run_convert_bytes_string w' s t e A n cap (telem_some he) (hT.int _ _ hu8) (tstr_some hts)]
          have h' : Abs G L w0 N st a w' β := ⟨h.hr.ext hE, fun n => h.hr.vext hE (h.tmp n), h.size, h.defers⟩
          obtain ⟨news, hsrc, hcs⟩ := conts_src (P := P) (T := T) (t := s) (tx := s) (e := e) h' (h.hr.vext hE hv) hxs (by
            have : v.isTxt = false := by
              cases v <;> first | rfl | (rename_i z; exact absurd rfl (hn3 z))
            simp [this, he])
          have hnews := bytesOf_cells hb hcs
          have hlen := hsrc.len w'
          have hcell := hsrc.cells
          cases A with
          | none =>
            have : ns = [] := by
              simp [Builtin.firstCells] at hcell
              have h0 : news = [] := by simpa using hcell.symm
              rw [h0] at hnews
              cases ns with
              | nil => rfl
              | cons a b => cases hnews
            subst this
            rfl
          | some ad =>
            have hln : n = xs.length := by simpa [Builtin.lenOf] using hlen
            rw [hnews] at hcell
            simp [Builtin.firstCells] at hcell
            rw [← hln] at hcell
            exact run_bytesToString w' ad n cap ns (by simpa using hcell)
        · exact hk.elim
      · exact hk.elim
    · exact hk.elim

theorem Step.wp {o : Oper} {K : V → St → Prop} {next : Act → World → Prop} {Q : Exit → Act → World → Prop} (hs : Step X P G L w0 N (execOp a.eval o) a w K)
    (hn : ∀ v st' β' w' x, (X = true → Ext w w') → K v st' → Abs G L w0 N st' a w' β' → OKW G L w0 w' β' v x → next (a.put o.dst x) w') : o.wp P a w next Q := by
  obtain ⟨x, w', hr, hE, v, st', β', hK, h1, h2⟩ := hs
  unfold Oper.wp
  rcases hr with hr | ⟨hr, rfl⟩
  · rw [hr]; exact hn _ _ _ _ _ hE hK h1 h2
  · rw [hr]; exact hn _ _ _ _ _ hE hK h1 h2

theorem args_eval (h : Abs G L w0 N st a w β) (xs : Array Operand) : Args (okF G L w0 w β) w β (xs.toList.map (ev st)) (xs.map a.eval) := by
  refine ⟨by simp, fun i hi => ?_⟩
  simp at hi
  simp [hi]
  exact h.ev _

theorem builtinK_sound {d : Nat} {b : Builtin} {ts : Array TypeId} {xs : Array Operand} {ty : TypeId} {cs : Array Bool} {K : V → St → Prop} (h : Abs G L w0 N st a w β) (hk : builtinK X T d b ts st xs K) :
    Step X P G L w0 N (builtin b ts ty cs (xs.map a.eval)) a w K := by
  have two : ∀ {xs : Array Operand}, xs.size = 2 → ∃ x y, xs = #[x, y] := by
    intro xs hx
    obtain ⟨l⟩ := xs
    match l, hx with
    | [x, y], _ => exact ⟨x, y, rfl⟩
  have two' : ∀ {xs : Array TypeId}, xs.size = 2 → ∃ x y, xs = #[x, y] := by
    intro xs hx
    obtain ⟨l⟩ := xs
    match l, hx with
    | [x, y], _ => exact ⟨x, y, rfl⟩
  unfold builtinK at hk
  split at hk
  · obtain ⟨hsz, hk⟩ := hk
    simp at hsz
    obtain ⟨x, y, rfl⟩ := two hsz.2
    obtain ⟨t, u, rfl⟩ := two' hsz.1
    have hk : appendK T d t u (ev st x) (ev st y) st K ∧ (X = true → ev st x = .nil) := by
      have e0 : arg0 st #[x, y] 0 = ev st x := by simp [arg0]
      have e1 : arg0 st #[x, y] 1 = ev st y := by simp [arg0]
      rw [e0, e1] at hk
      split at hk
      · exact ⟨by simpa using hk, fun hX => by cases hX⟩
      · rename_i e; rw [e]; exact ⟨by simpa using hk, fun _ => rfl⟩
      · exact hk.elim
    have := appendK_sound (P := P) (ty := ty) h (h.ev x) (h.ev y) hk.1 hk.2
    simpa [builtin] using this
  · obtain ⟨hsz, hk⟩ := hk
    simp at hsz
    obtain ⟨x, y, rfl⟩ := two hsz
    have hx := h.ev x
    have hy := h.ev y
    unfold minV arg0 at hk
    simp at hk
    split at hk
    · rename_i h1 h2
      rw [h1] at hx
      rw [h2] at hy
      generalize hq1 : a.eval x = X at hx
      generalize hq2 : a.eval y = Y at hy
      cases hx
      cases hy
      exact Step.pure h (run_v (by simp [Builtin.min_, Builtin.min2, hq1, hq2])) (.sc rfl) hk
    · exact hk.elim
  · obtain ⟨hsz, hk⟩ := hk
    simp at hsz
    obtain ⟨x, y, rfl⟩ := two hsz
    have hx := h.ev x
    have hy := h.ev y
    unfold minV arg0 at hk
    simp at hk
    split at hk
    · rename_i h1 h2
      rw [h1] at hx
      rw [h2] at hy
      generalize hq1 : a.eval x = X at hx
      generalize hq2 : a.eval y = Y at hy
      cases hx
      cases hy
      exact Step.pure h (run_v (by simp [Builtin.max_, Builtin.max2, hq1, hq2])) (.sc rfl) hk
    · exact hk.elim
  · obtain ⟨⟨h0⟩, hk⟩ := hk
    have hx : (xs.map a.eval)[0]? = some (a.eval xs[0]) := by simp [h0]
    have he : arg0 st xs 0 = ev st xs[0] := by simp [arg0, h0]
    rw [he] at hk
    exact (lenK_sound (ty := ty) h rfl hx (h.ev _) hk).step h
  · exact hk.elim

theorem callK_sound {d : Nat} {c : Call} {dst : Option Tmp} {ty : TypeId} {pos : String} {after : Array Edge} {guard : Option (Nat × Bool)} {K : V → St → Prop} {next : Act → World → Prop} {Q : Exit → Act → World → Prop} (h : Abs G L w0 N st a w β) (hk : callK X T P d c st K)
    (hn : ∀ v st' β' w' x, (X = true → Ext w w') → K v st' → Abs G L w0 N st' a w' β' → OKW G L w0 w' β' v x → next (a.put dst x) w') : Oper.wp P { dst := dst, op := .call c, type := ty, pos := pos, after := after, guard := guard } a w next Q := by
  unfold callK at hk
  split at hk
  · rename_i f hce
    obtain ⟨callee, xs, ts⟩ := c
    subst hce
    have hf := h.ev f
    split at hk
    · rename_i g caps hg
      rw [hg] at hf
      obtain ⟨hgood, hk⟩ := hk
      generalize hfv : a.eval f = fv at hf
      cases hf with
      | fn hcl hcr =>
      rename_i ys
      have hgood := hT.good _ hgood
      unfold goodF at hgood
      split at hgood
      · rename_i fn hfn
        simp at hgood
        obtain ⟨c, hc⟩ := Option.isSome_iff_exists.1 hgood.2
        have hrun : (execOp a.eval { dst := dst, op := .call { callee := .value f, args := xs, argTypes := ts }, type := ty, pos := pos, after := after, guard := guard }).run P w = .ok (.enter g (xs.map a.eval ++ ys)) w := by
          simp [execOp, resolve, hfv, Deferred.ofValue, invoke, callFunc, hfn, hgood.1, hc]
        unfold Oper.wp
        rw [hrun, Oper.upon_enter]
        have ha := args_eval h xs
        refine (hk G L w0 N a w β _ h ⟨by simp [hcl], fun i hi => ?_⟩).mono ?_
        · by_cases hlt : i < xs.size
          · have := ha.2 i (by simpa using hlt)
            simpa [hlt, List.getElem?_append, Array.getElem?_append] using this
          · have hi' : i - xs.size < caps.length := by simp at hi; omega
            have := hcr (i - xs.size) hi'
            have h3 : i - xs.size < ys.size := by omega
            have h4 : ¬ i < xs.size := hlt
            have h5 : i < xs.size + ys.size := by omega
            simpa [List.getElem?_append, Array.getElem_append, h3, h4, h5] using this
        · rintro e w' ⟨hE, x, v, s, β', rfl, hK, hA, hV⟩
          exact hn _ _ _ _ _ hE hK hA hV
      · cases hgood
    · exact hk.elim
  · rename_i b hce
    obtain ⟨callee, xs, ts⟩ := c
    subst hce
    refine Step.wp ?_ hn
    exact (builtinK_sound (X := X) h hk : Step X P G L w0 N (builtin b ts ty _ (xs.map a.eval)) a w K)
  · exact hk.elim

theorem opK_sound {o : Oper} {K : V → St → Prop} {next : Act → World → Prop} {Q : Exit → Act → World → Prop} (h : Abs G L w0 N st a w β) (hk : opK X T P (o.dst.getD 0) o st K)
    (hn : ∀ v st' β' w' x, (X = true → Ext w w') → K v st' → Abs G L w0 N st' a w' β' → OKW G L w0 w' β' v x → next (a.put o.dst x) w') : o.wp P a w next Q := by
  obtain ⟨dst, op, ty, pos, after, guard⟩ := o
  unfold opK at hk
  simp only at hk
  split at hk
  · exact Step.wp (Step.pure h rfl (h.ev _) hk) hn
  · exact Step.wp (Step.pure h rfl (h.ev _) hk) hn
  · rename_i c x y
    have hc := h.ev c
    split at hk
    · rename_i b hb
      rw [hb] at hc
      cases hq : a.eval c with
      | bool b' =>
        rw [hq] at hc
        cases hc
        cases b with
        | true => exact Step.wp (Step.pure h (by simp [execOp, hq, asBool]) (h.ev _) (hk.yes rfl)) hn
        | false => exact Step.wp (Step.pure h (by simp [execOp, hq, asBool]) (h.ev _) (hk.no rfl)) hn
      | _ => all_goals (rw [hq] at hc; cases hc)
    · exact hk.elim
  · exact Step.wp (allocK_sound h hk) hn
  · exact Step.wp (boxK_sound h (h.ev _) hk) hn
  · exact Step.wp ((loadK_sound h (h.ev _) hk).step h) hn
  · split at hk
    · rw [V.frc_eq] at hk
      exact Step.wp (storeK_sound h (h.ev _) (h.ev _) hk) hn
    · exact hk.elim
  · rename_i x
    have hx := h.ev x
    have hr := nilCheckK_run h hx hk
    refine Step.wp (Step.pure (x := a.eval x) (v := ev st x) h ?_ hx ?_) hn
    · rcases hr with ⟨ad, e⟩ | ⟨f, ys, e⟩ <;> simp [execOp, e]
    · unfold nilCheckK at hk; split at hk <;> first | exact hk.elim | exact hk
  · rename_i op t x y yt
    obtain ⟨v, z, hv, hr, rfl, h1⟩ := binK_run (P := P) (T := T) (ty := t) (xo := x) (yo := y) (h.ev x) (h.ev y) hk
    exact Step.wp (Step.pure h (run_v (hr w)) (.sc h1) hv) hn
  · exact Step.wp ((unK_sound h (h.ev _) hk).step h) hn
  · exact Step.wp ((convK_sound h (h.ev _) hk).step h) hn
  · exact Step.wp ((sliceK_sound h (h.ev _) (h.evo _) (h.evo _) (h.evo _) hk).step h) hn
  · exact Step.wp ((faddrK_sound h (h.ev _) hk).step h) hn
  · exact Step.wp ((fieldK_sound h (h.ev _) hk).step h) hn
  · exact Step.wp ((iaddrK_sound h (h.ev _) (h.ev _) hk).step h) hn
  · exact Step.wp ((indexK_sound h (h.ev _) (h.ev _) hk).step h) hn
  · exact Step.wp ((extractK_sound h (h.ev _) hk).step h) hn
  · rename_i t x
    obtain ⟨e, he⟩ := Option.isSome_iff_exists.1 hk.1
    exact Step.wp (Step.pure h (x := .iface t (a.eval x)) (by simp [execOp, Instr.makeInterface, run_underlying (telem_some he)]) (.ifc (h.ev x)) hk.2) hn
  · rename_i f first cs
    obtain ⟨h0, hk⟩ := hk
    have h0 : first = #[] := by simpa using h0
    subst h0
    have hc := args_eval h cs
    exact Step.wp (Step.pure h (x := .func (.func f) #[] (cs.map a.eval)) (by simp [execOp, Instr.makeFunc]) (.fn hc.1 hc.2) hk) hn
  · rename_i c
    simp only [frcT_eq] at hk
    exact callK_sound h hk hn
  · exact Step.wp ((buildK_sound h hk).step h) hn
  · exact Step.wp (bsliceK_sound h hk) hn
  · exact Step.wp (makeK_sound h (h.ev _) (h.ev _) hk) hn
  · exact hk.elim

theorem Abs.put {v : V} {x : Value} {o : Oper} (h : Abs G L w0 N st a w β) (hd : dstK o N = true) (hv : OKW G L w0 w β v x) : Abs G L w0 N (putS o v st) (a.put o.dst x) w β := by
  unfold putS Act.put
  unfold dstK at hd
  cases hdst : o.dst with
  | none => exact h
  | some d =>
    rw [hdst] at hd
    simp at hd
    refine ⟨h.hr, fun n => ?_, by simp [h.size], h.defers⟩
    simp only [lkV]
    by_cases e : d = n
    · subst e
      have hs := h.size
      have : d < a.tmps.size := Nat.lt_of_lt_of_eq hd hs.symm
      simp [this]
      exact hv
    · have := h.tmp n
      have e2 : (a.tmps.setIfInBounds d x).getD n undef = a.tmps.getD n undef := by simp [e]
      simp only [e, if_false]
      rw [e2]
      exact this

theorem VRel.skipped (ok : Nat → Prop) (w : World) (β : Beta) : VRel ok w β (.tup []) undef := .tup (by simp) (fun i hi => by simp at hi)
theorem yielded_tup (h : Abs G L w0 N st a w β) {ops : Array Oper} {j : Nat} {t : Tmp} {cs : List V} (ht : (ops[j]?).bind (·.dst) = some t) (hv : lkV st.ts t = .tup cs) : yielded ops a.tmps j = none := by
  have hr := h.tmp t
  rw [hv] at hr
  unfold yielded
  rw [ht]
  simp only [Option.bind_some]
  by_cases hlt : t < a.tmps.size
  · have e : a.tmps.getD t undef = a.tmps[t] := by simp [hlt]
    rw [e] at hr
    rw [Array.getElem?_eq_getElem hlt]
    generalize a.tmps[t] = q at hr
    cases hr
    rfl
  · rw [Array.getElem?_eq_none (Nat.le_of_not_lt hlt)]
theorem yielded_of (h : Abs G L w0 N st a w β) {ops : Array Oper} {j : Nat} {t : Tmp} {b : Bool} (ht : (ops[j]?).bind (·.dst) = some t) (hv : lkV st.ts t = .sc (.bool b)) (hN : t < N) : yielded ops a.tmps j = some b := by
  have hr := h.tmp t
  rw [hv] at hr
  unfold yielded
  rw [ht]
  have hs := h.size
  have hlt : t < a.tmps.size := Nat.lt_of_lt_of_eq hN hs.symm
  have e : a.tmps.getD t undef = a.tmps[t] := by simp [hlt]
  rw [e] at hr
  simp only [Option.bind_some, Array.getElem?_eq_getElem hlt]
  generalize a.tmps[t] = q at hr
  cases hr
  rfl

theorem opsK_sound {ops : Array Oper} {Q : Exit → Act → World → Prop} : ∀ (l : List Oper) {st : St} {a : Act} {w : World} {β : Beta} {K : St → Prop}, (∀ st' a' w' β', K st' → Abs G L w0 N st' a' w' β' → Q .normal a' w') →
    Abs G L w0 N st a w β → opsK T P N ops l st K → wpList P ops Q l a w
  | [], st, a, w, β, K, hQ, h, hk => hQ _ _ _ _ hk h
  | o :: os, st, a, w, β, K, hQ, h, hk => by
    simp only [opsK, withDst_eq, putK_eq] at hk
    obtain ⟨hd, hk⟩ := hk
    have go : opK false T P (o.dst.getD 0) o st (fun v s => opsK T P N ops os (putS o v s) K) → o.wp P a w (wpList P ops Q os) Q := fun hk =>
      opK_sound h hk fun v st' β' w' x _ hK hA hV => opsK_sound os hQ (hA.put hd hV) hK
    simp only [wpList]
    split at hk
    · rename_i hg
      have : Region.wanted o (yielded ops a.tmps) = true := by simp [Region.wanted, hg]
      rw [if_pos this]
      exact .inl (go hk)
    · rename_i j want hg
      split at hk
      · rename_i t ht
        split at hk
        · rename_i b hb
          by_cases hN : t < N
          · have hy := yielded_of h ht hb hN
            by_cases e : b = want
            · have : Region.wanted o (yielded ops a.tmps) = true := by simp [Region.wanted, hg, hy, e]
              rw [if_pos this]
              exact .inl (go (by subst e; cases b; exact hk.no rfl; exact hk.yes rfl))
            · have : Region.wanted o (yielded ops a.tmps) = false := by simp [Region.wanted, hg, hy, e]
              rw [this]
              simp only [Bool.false_eq_true, if_false]
              exact opsK_sound os hQ (h.put hd (.skipped _ _ _)) (by
                cases b <;> cases want <;> first | exact absurd rfl e | exact hk.no rfl | exact hk.yes rfl)
          · have hr := h.tmp t
            rw [hb] at hr
            have hs := h.size
            have : a.tmps.getD t undef = undef := by
              have : ¬ t < a.tmps.size := fun hc => hN (Nat.lt_of_lt_of_eq hc hs)
              simp [this]
            rw [this] at hr
            cases hr
        · rename_i cs hb
          have hy := yielded_tup h ht hb
          have : Region.wanted o (yielded ops a.tmps) = false := by simp [Region.wanted, hg, hy]
          rw [this]
          simp only [Bool.false_eq_true, if_false]
          exact opsK_sound os hQ (h.put hd (.skipped _ _ _)) hk
        · exact hk.elim
      · exact hk.elim

def QQ (G : Nat → Prop) (L : Beta) (w0 : World) (N : Nat) (Q : Exit → St → Prop) : Exit → Act → World → Prop := fun e a w =>
  match e with
  | .normal => ∃ st β, Q .normal st ∧ Abs G L w0 N st a w β
  | .exit id => ∃ st β, Q (.exit id) st ∧ Abs G L w0 N st a w β
  | .ret => ∃ st β, Q .ret st ∧ Abs G L w0 N st a w β
  | _ => False

theorem awp_sound : ∀ (c : Code) {Q : Exit → St → Prop} {st : St} {a : Act} {w : World} {β : Beta}, Abs G L w0 N st a w β → awp T P N c Q st → c.wp P (QQ G L w0 N Q) a w
  | .skip, Q, st, a, w, β, h, hk => wp_skip ⟨st, β, hk, h⟩
  | .region _ ops false, Q, st, a, w, β, h, hk => wp_region_list (opsK_sound ops.toList (K := Q .normal) (fun st' a' w' β' hK hA => ⟨st', β', hK, hA⟩) h hk)
  | .region id ops true, Q, st, a, w, β, h, hk => wp_mono (hk G L w0 a w β id h) fun e a' w' hq => by cases e <;> first | exact hq | exact hq.elim
  | .seq x y, Q, st, a, w, β, h, hk => wp_seq (wp_mono (awp_sound x h hk) fun e a' w' hq => by
      cases e with
      | normal => obtain ⟨st', β', h1, h2⟩ := hq; exact awp_sound y h2 h1
      | exit id => exact hq
      | ret => exact hq
      | _ => exact hq.elim)
  | .cond c x y, Q, st, a, w, β, h, hk => by
      have hc := h.ev c
      simp only [awp] at hk
      split at hk
      · rename_i b hb
        rw [hb] at hc
        generalize hq : a.eval c = q at hc
        cases hc
        refine wp_cond_split hq (fun e => ?_) (fun e => ?_)
        · exact awp_sound x h (hk.yes e)
        · exact awp_sound y h (hk.no e)
      · exact hk.elim
  | .block id c, Q, st, a, w, β, h, hk => wp_block (wp_mono (awp_sound c h hk) fun e a' w' hq => by
      cases e with
      | normal => exact hq
      | exit i =>
        obtain ⟨st', β', h1, h2⟩ := hq
        simp only [blockQ] at h1
        simp only [Exit.inBlock]
        split
        · rename_i e; rw [if_pos e] at h1; exact ⟨st', β', h1, h2⟩
        · rename_i e; rw [if_neg e] at h1; exact ⟨st', β', h1, h2⟩
      | ret => exact hq
      | _ => exact hq.elim)
  | .loop c, Q, st, a, w, β, h, hk => by
      obtain ⟨I, n0, s0, hent, hI, hround⟩ := hk
      obtain ⟨β0, h0⟩ := hent _ _ _ _ _ _ _ h
      refine wp_loop_ghost (fun n a w => ∃ s β, I n s ∧ Abs G L w0 N s a w β) n0 ⟨s0, β0, hI, h0⟩ ?_
      rintro n a w ⟨s, β, hI, hA⟩
      refine wp_mono (awp_sound c hA (hround n s hI)) fun e a' w' hq => ?_
      cases e with
      | normal =>
        obtain ⟨st', β', ⟨n', s'', hlt, hent', hI'⟩, h2⟩ := hq
        obtain ⟨β'', h3⟩ := hent' _ _ _ _ _ _ _ h2
        exact ⟨n', hlt, s'', β'', hI', h3⟩
      | exit id => exact hq
      | ret => exact hq
      | _ => exact hq.elim
  | .exit id, Q, st, a, w, β, h, hk => wp_exit ⟨st, β, hk, h⟩
  | .ret, Q, st, a, w, β, h, hk => wp_ret ⟨st, β, hk, h⟩
  | .rangeFunc .., _, _, _, _, _, _, hk => hk.elim
  | .scope .., _, _, _, _, _, _, hk => hk.elim
  | .label .., _, _, _, _, _, _, hk => hk.elim
  | .goto .., _, _, _, _, _, _, hk => hk.elim
  | .refuse .., _, _, _, _, _, _, hk => hk.elim

/-! ### A function -/
def st0 (vs : List V) (h : Hp) : St := { ts := vs.zipIdx.map fun (v, i) => (i, v), hs := h }
end
end Go.Sym
