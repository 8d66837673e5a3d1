/- The evaluator over a function's body, and that it is sound. -/
import Derived.Test.YtahldekpgadgdaaDoorEvTwo
import Derived.Scope
set_option linter.all false

namespace Go.Ev
open Go Go.RowKit

abbrev Env := List (Nat × AV)
abbrev Objs := List (Nat × AO)

def look : Env → Nat → AV
  | [], _ => .iv .any
  | (k, v) :: r, t => if t = k then v else look r t

def lookO : Objs → Nat → Option AO
  | [], _ => none
  | (k, o) :: r, i => if i = k then some o else lookO r i

def bnd (d : Option Nat) (v : AV) (e : Env) : Env :=
  match d with
  | none => e
  | some d => (d, v) :: e

def setE (t : Nat) (v : AV) : Env → Env
  | [] => []
  | (k, x) :: r => if t = k then (k, v) :: r else (k, x) :: setE t v r

def setOL (id : Nat) (o : AO) : Objs → Objs
  | [] => [(id, o)]
  | (k, x) :: r => if id = k then (k, o) :: r else (k, x) :: setOL id o r

def upL (up : Option (Nat × AO)) (os : Objs) : Objs :=
  match up with
  | none => os
  | some (id, o) => setOL id o os

theorem look_bnd (d : Option Nat) (v : AV) (e : Env) : look (bnd d v e) = setK (look e) d v := by
  cases d <;> rfl

theorem lookO_setOL (id : Nat) (o : AO) : ∀ os : Objs, lookO (setOL id o os) = setO (lookO os) id o
  | [] => by funext i; simp [setOL, lookO, setO]
  | (k, x) :: r => by
    funext i
    simp only [setOL]
    split
    · rename_i h
      subst h
      simp only [lookO, setO]
      split <;> rfl
    · rename_i h
      simp only [lookO, lookO_setOL id o r, setO]
      by_cases h1 : i = k <;> by_cases h2 : i = id <;> simp_all

theorem lookO_upL (up : Option (Nat × AO)) (os : Objs) : lookO (upL up os) = upO (lookO os) up := by
  cases up with
  | none => rfl
  | some p => obtain ⟨id, o⟩ := p; exact lookO_setOL id o os

theorem look_setE {t : Nat} {v : AV} : ∀ {e : Env}, look e t = v → look (setE t v e) = look e
  | [], _ => rfl
  | (k, x) :: r, h => by
    funext u
    simp only [look] at h
    simp only [setE]
    split
    · rename_i hk
      rw [if_pos hk] at h
      subst h
      rfl
    · rename_i hk
      rw [if_neg hk] at h
      simp only [look]
      split
      · rfl
      · exact congrFun (look_setE h) u

def sig (e : Env) (o : Objs) : Fs := ⟨look e, lookO o⟩

theorem sig_app (e : Env) (o : Objs) (d : Option Nat) (v : AV) (up : Option (Nat × AO)) : (sig e o).app d v up = sig (bnd d v e) (upL up o) := by
  simp [sig, Fs.app, look_bnd, lookO_upL]

def evK (C : AV → Option (Nat × AO) → Prop) : Res → Prop
  | .ok s f v up => s ∧ (f → C v up)
  | .no => False

def run1 (P : Program) (K : World → Prop) (op : AOp) (C : AV → Option (Nat × AO) → Prop) (e : Env) (o : Objs) : Prop :=
  match op with
  | .call g args ids => ∃ xs r, peek (lookO o) ids (args.map (·.av (look e))) = some xs ∧ Good P K g xs r ∧ (ids = [] ∨ scalar r = true) ∧ C (.iv r) none
  | op => evK C (ev (look e) (lookO o) op)

def guardK (b : Bool) (C : Bool → AV → Prop) : AV → Prop
  | .iv (.bool c) => (c = b → C true (.iv (.bool b))) ∧ (c = !b → C false (.iv (.bool (!b))))
  | .iv (.tup []) => C false (.iv (.tup []))
  | _ => False

def runOps (P : Program) (K : World → Prop) (C : Env → Objs → Prop) : List AOper → Env → Objs → Prop
  | [], e, o => C e o
  | A :: l, e, o =>
    match A.g with
    | none => run1 P K A.op (fun v up => runOps P K C l (bnd A.d v e) (upL up o)) e o
    | some (t, b) => guardK b (fun w u => match w with
        | true => run1 P K A.op (fun v up => runOps P K C l (bnd A.d v (setE t u e)) (upL up o)) (setE t u e) o
        | false => runOps P K C l (bnd A.d (.iv (.tup [])) (setE t u e)) o) (look e t)

section
variable {P : Program} {K : World → Prop} {ok0 : Nat → Prop} {N : Nat} {w0 : World} {a : Act} {w : World} {L : Nat → Lay}

theorem run1_mono {op : AOp} {C C' : AV → Option (Nat × AO) → Prop} {e : Env} {o : Objs} (h : ∀ v up, C v up → C' v up) (hh : run1 P K op C e o) : run1 P K op C' e o := by
  have plain : ∀ r, evK C r → evK C' r := by
    intro r hr
    cases r with
    | no => exact hr
    | ok s f v up => exact ⟨hr.1, fun hf => h _ _ (hr.2 hf)⟩
  cases op with
  | call g args ids => obtain ⟨xs, r, h1, h2, h3, h4⟩ := hh; exact ⟨xs, r, h1, h2, h3, h _ _ h4⟩
  | _ => simp only [run1] at hh ⊢; exact plain _ hh

theorem runOps_mono {C C' : Env → Objs → Prop} (h : ∀ e o, C e o → C' e o) : ∀ (l : List AOper) (e : Env) (o : Objs), runOps P K C l e o → runOps P K C' l e o
  | [], e, o, hh => h _ _ hh
  | A :: l, e, o, hh => by
    simp only [runOps] at hh ⊢
    split at hh
    · exact run1_mono (fun v up => runOps_mono h l _ _) hh
    · rename_i t b _
      unfold guardK at hh ⊢
      split at hh
      · exact ⟨fun hc => run1_mono (fun v up => runOps_mono h l _ _) (hh.1 hc), fun hc => runOps_mono h l _ _ (hh.2 hc)⟩
      · exact runOps_mono h l _ _ hh
      · exact hh

/-- A wanted operation: the way on. -/
theorem run1_gives {A : AOper} {p : Oper} {C : AV → Option (Nat × AO) → Prop} {e : Env} {o : Objs} (c : Ctx P K ok0 w0) (h : Rel ok0 N w0 (look e) (lookO o) a w L) (hf : A.op.fits P p.op = true)
    (hh : run1 P K A.op C e o) : ∃ v up, Gives P K A.op (sig e o) v up ∧ C v up := by
  have plain : (hnc : ∀ g args ids, A.op ≠ .call g args ids) → evK C (ev (look e) (lookO o) A.op) → ∃ v up, Gives P K A.op (sig e o) v up ∧ C v up := by
    intro _ hk
    cases hr : ev (look e) (lookO o) A.op with
    | no => rw [hr] at hk; exact hk.elim
    | ok s f v up =>
      rw [hr] at hk
      obtain ⟨hf', _⟩ := op_sound h c.ok hf hr hk.1
      exact ⟨v, up, .inl ⟨s, f, hr, hk.1⟩, hk.2 hf'⟩
  cases hop : A.op with
  | call g args ids =>
    rw [hop] at hh
    obtain ⟨xs, r, h1, h2, h3, h4⟩ := hh
    exact ⟨.iv r, none, .inr ⟨g, args, ids, xs, r, rfl, h1, h2, h3, rfl, rfl⟩, h4⟩
  | _ =>
    rw [← hop]
    exact plain (by rw [hop]; simp) (by rw [hop] at hh ⊢; exact hh)

theorem gives_step {A : AOper} {p : Oper} {σ : Fs} {v : AV} {up : Option (Nat × AO)} (c : Ctx P K ok0 w0) (h : Rel ok0 N w0 σ.lk σ.lo a w L) (hd : dstFits N A.d p.dst = true) (hf : A.op.fits P p.op = true)
    (hy : Gives P K A.op σ v up) : ∃ a' w' L', Rel ok0 N w0 (σ.app A.d v up).lk (σ.app A.d v up).lo a' w' L' := by
  have := gives_wp (Q := fun _ _ _ => False) (C := fun a' w' => ∃ L', Rel ok0 N w0 (σ.app A.d v up).lk (σ.app A.d v up).lo a' w' L') c h hd hf hy (fun a' w' L' h => ⟨L', h⟩)
  unfold Oper.wp Oper.upon at this
  split at this
  · obtain ⟨L', h⟩ := this; exact ⟨_, _, L', h⟩
  · obtain ⟨L', h⟩ := this; exact ⟨_, _, L', h⟩
  · obtain ⟨L', h⟩ := this; exact ⟨_, _, L', h⟩
  · obtain ⟨e, w', fr, hR, _⟩ := this []
    cases e with
    | returned v => obtain ⟨L', h⟩ := hR; exact ⟨_, _, L', h⟩
    | panicked ch => exact hR.elim
    | outgrown => obtain ⟨_, _, hq⟩ := hR; exact hq.elim
  · obtain ⟨v, w', hR, _⟩ := this default []
    obtain ⟨L', h⟩ := hR; exact ⟨_, _, L', h⟩
  · exact this.elim
  · exact this.elim

theorem extract {ops : Array Oper} {C : Env → Objs → Prop} (c : Ctx P K ok0 w0) : ∀ (l : List AOper) (ps : List Oper) (e : Env) (o : Objs) (a : Act) (w : World) (L : Nat → Lay), opersFit P N ops l ps = true →
    Rel ok0 N w0 (look e) (lookO o) a w L → runOps P K C l e o → ∃ e' o', Path P K l (sig e o) (sig e' o') ∧ C e' o'
  | [], ps, e, o, a, w, L, _, _, hh => ⟨e, o, .nil _, hh⟩
  | A :: l, [], e, o, a, w, L, hf, _, _ => by simp [opersFit] at hf
  | A :: l, p :: ps, e, o, a, w, L, hf, hr, hh => by
    simp only [opersFit, Bool.and_eq_true] at hf
    obtain ⟨hop, hf⟩ := hf
    have hop' := hop
    simp only [operFits, Bool.and_eq_true] at hop'
    obtain ⟨⟨hd, hg⟩, hfit⟩ := hop'
    simp only [runOps] at hh
    have wanted : ∀ e1 : Env, look e1 = look e → run1 P K A.op (fun v up => runOps P K C l (bnd A.d v e1) (upL up o)) e1 o →
        (∀ v up, Gives P K A.op (sig e o) v up → Yields P K A (sig e o) v up) → ∃ e' o', Path P K (A :: l) (sig e o) (sig e' o') ∧ C e' o' := by
      intro e1 he1 h1 hy
      have hr1 : Rel ok0 N w0 (look e1) (lookO o) a w L := by rw [he1]; exact hr
      obtain ⟨v, up, hgv, hc⟩ := run1_gives c hr1 hfit h1
      have hs1 : sig e1 o = sig e o := by simp [sig, he1]
      rw [hs1] at hgv
      obtain ⟨a', w', L', hr'⟩ := gives_step (σ := sig e o) c hr hd hfit hgv
      have hs2 : (sig e o).app A.d v up = sig (bnd A.d v e1) (upL up o) := by rw [← hs1, sig_app]
      rw [hs2] at hr'
      obtain ⟨e', o', hp, hc'⟩ := extract c l ps _ _ a' w' L' hf hr' hc
      exact ⟨e', o', .cons A l _ _ v up (hy v up hgv) (by rw [hs2]; exact hp), hc'⟩
    have unwanted : ∀ (t : Nat) (b : Bool), A.g = some (t, b) → ∀ x : AV, look e t = x → (look e t = .iv (.bool (!b)) ∨ look e t = .iv (.tup [])) → runOps P K C l (bnd A.d (.iv (.tup [])) (setE t x e)) o →
        ∃ e' o', Path P K (A :: l) (sig e o) (sig e' o') ∧ C e' o' := by
      intro t b hag x hx hor hun
      have hle := look_setE (e := e) hx
      have hs : (sig e o).app A.d (.iv (.tup [])) none = sig (bnd A.d (.iv (.tup [])) (setE t x e)) o := by
        have : sig e o = sig (setE t x e) o := by simp [sig, hle]
        rw [this, sig_app]; rfl
      obtain ⟨hde, hdlt⟩ := dst_spec hd
      have hr' := hr.put p.dst hdlt (x := .iv (.tup [])) (v := undef) (.iv _ _ rep_undef)
      rw [← hde] at hr'
      have hr2 : Rel ok0 N w0 (look (bnd A.d (.iv (.tup [])) (setE t x e))) (lookO o) (a.put A.d undef) w L := by
        rw [look_bnd, hle]; exact hr'
      obtain ⟨e', o', hp, hc'⟩ := extract c l ps _ _ _ w L hf hr2 hun
      exact ⟨e', o', .cons A l _ _ (.iv (.tup [])) none (by unfold Yields; rw [hag]; exact .inr ⟨hor, rfl, rfl⟩) (by rw [hs]; exact hp), hc'⟩
    split at hh
    · rename_i hag
      exact wanted e rfl hh (fun v up h => by unfold Yields; rw [hag]; exact h)
    · rename_i t b hag
      unfold guardK at hh
      split at hh
      · rename_i cb hcb
        by_cases hbc : cb = b
        · subst hbc
          exact wanted _ (look_setE hcb) (hh.1 rfl) (fun v up h => by unfold Yields; rw [hag]; exact .inl ⟨hcb, h⟩)
        · have hcb' : cb = !b := by cases cb <;> cases b <;> simp_all
          subst hcb'
          have hun := hh.2 rfl
          simp only [] at hun
          exact unwanted t b hag _ hcb (.inl hcb) hun
      · rename_i hcb
        exact unwanted t b hag _ hcb (.inr hcb) hh
      · exact hh.elim

end
end Go.Ev

/- Runs of a whole body, and what a caller may take of the function. -/
namespace Go.Ev
open Go Go.RowKit

inductive AC where
  | skip
  | ops (l : List AOper) (draw : Bool)
  | seq (x y : AC)
  | cond (c : Opd) (x y : AC)
  | block (id : Nat) (c : AC)
  | loop (c : AC) (ks ids : List Nat)
  | exit (id : Nat)
  | scope (c : AC)
  | label (l : Nat)
  | ret
  deriving Inhabited

inductive AI where
  | code (c : AC)
  | inBlock (id : Nat)
  | inLoop (c : AC) (ks ids : List Nat)
  | inScope

inductive ARes where
  | tmp (t : Nat)
  | cell (t n : Nat) (ag : Bool)

def codeFits (P : Program) (N : Nat) : AC → Code → Bool
  | .skip, .skip => true
  | .ops l d, .region _ ops d' => d == d' && regionFits P N l ops d
  | .seq x y, .seq x' y' => codeFits P N x x' && codeFits P N y y'
  | .cond c x y, .cond c' x' y' => c.is c' && codeFits P N x x' && codeFits P N y y'
  | .block id c, .block id' c' => id == id' && codeFits P N c c'
  | .loop c _ _, .loop c' => codeFits P N c c'
  | .exit id, .exit id' => id == id'
  | .scope c, .scope c' => codeFits P N c c'
  | .label l, .label l' => l == l'
  | .ret, .ret => true
  | _, _ => false

def exitA (id : Nat) : List AI → Option (List AI)
  | .inBlock id' :: k => if id' == id then some k else exitA id k
  | _ :: k => exitA id k
  | [] => none

mutual
/-- A value without what leads to objects that are given up. -/
def scr (ids : List Nat) : AV → AV
  | .iv x => .iv x
  | .agg cs => .agg (scrL ids cs)
  | .loc id off => if ids.contains id then .loc id off else .iv .any
  | .eloc id n i off => if ids.contains id then .eloc id n i off else .iv .any
  | .aref id n => if ids.contains id then .aref id n else .iv .any
def scrL (ids : List Nat) : List AV → List AV
  | [] => []
  | x :: r => scr ids x :: scrL ids r
end

def scrO (ids : List Nat) : AO → AO
  | .box cs => .box (scrL ids cs)
  | .arr e sz es mv => .arr e sz (es.map (scrL ids)) mv

def keepE (ks ids : List Nat) (e : Env) : Env := ks.map fun t => (t, scr ids (look e t))

def keepO (all : List Nat) (o : Objs) : List Nat → Objs
  | [] => []
  | id :: r => match lookO o id with
    | some x => (id, scrO all x) :: keepO all o r
    | none => keepO all o r

def resV (e : Env) (o : Objs) : ARes → Option IV
  | .tmp t => imm (lookO o) 40 (look e t)
  | .cell t n ag => match look e t with
    | .loc id off => match lookO o id with
      | some (.box cs) => match ag with
        | true => if off + n ≤ cs.length then (imms (lookO o) 40 ((cs.drop off).take n)).map .agg else none
        | false => if n = 1 then (cs[off]?).bind (imm (lookO o) 40) else none
      | _ => none
    | _ => none

def resVs (e : Env) (o : Objs) : List ARes → Option (List IV)
  | [] => some []
  | x :: r => match resV e o x, resVs e o r with
    | some y, some ys => some (y :: ys)
    | _, _ => none

def retV (res : List ARes) (e : Env) (o : Objs) : Option IV :=
  match resVs e o res with
  | some [x] => some x
  | some xs => some (.tup xs)
  | none => none

def resFits (P : Program) : List ARes → List ResultVar → Bool
  | [], [] => true
  | .tmp t :: r, .tmp t' :: s => t == t' && resFits P r s
  | .cell t n ag :: r, .cell t' T :: s => t == t' && Program.agg P T == some ag && Program.sizeIs P T n && resFits P r s
  | _, _ => false

/-- The run returns 'r'. -/
inductive Wp (P : Program) (K : World → Prop) (res : List ARes) (r : IV) : List AI → Env → Objs → Prop
  | skip (k : List AI) (e : Env) (o : Objs) (h : Wp P K res r k e o) : Wp P K res r (.code .skip :: k) e o
  | region (l : List AOper) (draw : Bool) (k : List AI) (e : Env) (o : Objs) (C : Env → Objs → Prop) (h : runOps P K C l e o) (hC : ∀ e o, C e o → Wp P K res r k e o) : Wp P K res r (.code (.ops l draw) :: k) e o
  | seq (x y : AC) (k : List AI) (e : Env) (o : Objs) (h : Wp P K res r (.code x :: .code y :: k) e o) : Wp P K res r (.code (.seq x y) :: k) e o
  | cond (c : Opd) (x y : AC) (k : List AI) (e : Env) (o : Objs) (b : Bool) (hc : c.av (look e) = .iv (.bool b)) (ht : b = true → Wp P K res r (.code x :: k) e o) (hf : b = false → Wp P K res r (.code y :: k) e o) :
      Wp P K res r (.code (.cond c x y) :: k) e o
  | block (id : Nat) (c : AC) (k : List AI) (e : Env) (o : Objs) (h : Wp P K res r (.code c :: .inBlock id :: k) e o) : Wp P K res r (.code (.block id c) :: k) e o
  | inBlock (id : Nat) (k : List AI) (e : Env) (o : Objs) (h : Wp P K res r k e o) : Wp P K res r (.inBlock id :: k) e o
  | loop (c : AC) (ks ids : List Nat) (k : List AI) (e : Env) (o : Objs) (h : Wp P K res r (.code c :: .inLoop c ks ids :: k) (keepE ks ids e) (keepO ids o ids)) : Wp P K res r (.code (.loop c ks ids) :: k) e o
  | inLoop (c : AC) (ks ids : List Nat) (k : List AI) (e : Env) (o : Objs) (h : Wp P K res r (.code c :: .inLoop c ks ids :: k) (keepE ks ids e) (keepO ids o ids)) : Wp P K res r (.inLoop c ks ids :: k) e o
  | scope (c : AC) (k : List AI) (e : Env) (o : Objs) (h : Wp P K res r (.code c :: .inScope :: k) e o) : Wp P K res r (.code (.scope c) :: k) e o
  | inScope (k : List AI) (e : Env) (o : Objs) (h : Wp P K res r k e o) : Wp P K res r (.inScope :: k) e o
  | label (l : Nat) (k : List AI) (e : Env) (o : Objs) (h : Wp P K res r k e o) : Wp P K res r (.code (.label l) :: k) e o
  | exit (id : Nat) (k k' : List AI) (e : Env) (o : Objs) (hk : exitA id k = some k') (h : Wp P K res r k' e o) : Wp P K res r (.code (.exit id) :: k) e o
  | ret (k : List AI) (e : Env) (o : Objs) (h : retV res e o = some r) : Wp P K res r (.code .ret :: k) e o
  | done (e : Env) (o : Objs) (h : retV res e o = some r) : Wp P K res r [] e o

/-- The rest of the run, as the machine holds it. -/
inductive Fit (P : Program) (N : Nat) : List AI → List Item → Prop
  | nil : Fit P N [] []
  | code (c : AC) (c' : Code) (k : List AI) (k' : List Item) (h : codeFits P N c c' = true) (hk : Fit P N k k') : Fit P N (.code c :: k) (.code c' :: k')
  | inBlock (id : Nat) (k : List AI) (k' : List Item) (hk : Fit P N k k') : Fit P N (.inBlock id :: k) (.inBlock id :: k')
  | inScope (c' : Code) (k : List AI) (k' : List Item) (hk : Fit P N k k') : Fit P N (.inScope :: k) (.inScope c' :: k')
  | inLoop (c : AC) (c' : Code) (ks ids : List Nat) (k : List AI) (k' : List Item) (h : codeFits P N c c' = true) (hk : Fit P N k k') : Fit P N (.inLoop c ks ids :: k) (.inLoop c' :: k')

theorem Fit.exit {P : Program} {N : Nat} {id : Nat} {k : List AI} {k' : List Item} (h : Fit P N k k') : ∀ {j : List AI}, exitA id k = some j → ∃ j', exitTo id k' = some j' ∧ Fit P N j j' := by
  induction h with
  | nil => intro j hj; simp [exitA] at hj
  | code c c' k k' h hk ih => intro j hj; simp only [exitA] at hj; simp only [exitTo]; exact ih hj
  | inBlock id' k k' hk ih =>
    intro j hj
    simp only [exitA] at hj
    simp only [exitTo]
    split at hj
    · rename_i hid
      injection hj with hj
      subst hj
      exact ⟨k', by rw [if_pos hid], hk⟩
    · rename_i hid
      obtain ⟨j', h1, h2⟩ := ih hj
      exact ⟨j', by rw [if_neg hid]; exact h1, h2⟩
  | inScope c' k k' hk ih => intro j hj; simp only [exitA] at hj; simp only [exitTo]; exact ih hj
  | inLoop c c' ks ids k k' h hk ih => intro j hj; simp only [exitA] at hj; simp only [exitTo]; exact ih hj

/-- The machine comes to the function's end, with its result. -/
def Reach (P : Program) (f : FuncId) (cs : List Frame) (m : Machine) (R : Value → World → Prop) : Prop :=
  ∃ w' fr v, Steps P m (lone fr cs w') ∧ fr.fn = f ∧ fr.leaving P w' (.returned v) ∧ R v w'

theorem Reach.steps {P : Program} {f : FuncId} {cs : List Frame} {m m' : Machine} {R : Value → World → Prop} (h : Steps P m m') (hr : Reach P f cs m' R) : Reach P f cs m R :=
  let ⟨w', fr, v, h1, h2⟩ := hr
  ⟨w', fr, v, h.trans h1, h2⟩

section
variable {P : Program} {K : World → Prop} {ok0 : Nat → Prop} {N : Nat} {w0 : World} {a : Act} {w : World} {L : Nat → Lay}

mutual
theorem scr_rep {ok ok' : Nat → Prop} {lo lo' : Nat → Option AO} {ids : List Nat} (hok : ∀ b, ok b → ok' b) (hlo : ∀ id o, ids.contains id = true → lo id = some o → lo' id = some (scrO ids o)) :
    ∀ {x : AV} {v : Value}, RepA ok w lo L x v → RepA ok' w lo' L (scr ids x) v
  | .iv x, v, h => by
    cases h with
    | iv _ _ r => exact .iv _ _ (r.mono fun b hb _ => ⟨hok b hb, rfl⟩)
  | .agg cs, v, h => by
    cases h with
    | agg _ vs hl h1 hx =>
      simp only [scr]
      obtain ⟨h2, h3⟩ := scrL_rep hok hlo hl hx
      exact .agg _ vs h2 h1 h3
  | .loc id off, v, h => by
    cases h with
    | loc _ _ cs b ho hL =>
      simp only [scr]
      split
      · rename_i hc
        exact .loc id off (scrL ids cs) b (hlo id _ hc ho) hL
      · exact .iv _ _ (.any _)
  | .aref id n, v, h => by
    simp only [scr]
    split
    · rename_i hc
      generalize hq : AV.aref id n = q at h
      cases h with
      | iv => cases hq
      | agg => cases hq
      | loc => cases hq
      | eloc => cases hq
      | aref i2 e2 sz2 es2 mv2 v2 xs hob2 hL hsl =>
        injection hq with hq1 hq2
        subst hq1 hq2
        have := RepA.aref (ok := ok') (w := w) id e2 sz2 (es2.map (scrL ids)) mv2 v xs (hlo id _ hc hob2) hL hsl
        rwa [List.length_map] at this
      | old i2 n2 e2 sz2 es2 mv2 v2 _ xs hob2 hL hsl hn2 hv =>
        injection hq with hq1 hq2
        subst hq1 hq2
        refine .old id n e2 sz2 (es2.map (scrL ids)) mv2 v2 v xs (hlo id _ hc hob2) hL hsl (by simpa using hn2) fun hm => ?_
        rcases hv hm with h | ⟨b, cap, h1, h2, h3, h4⟩
        · exact .inl h
        · exact .inr ⟨b, cap, h1, h2, h3, fun k hk => ⟨(h4 k hk).1.imp (hok b) (fun h => h), (h4 k hk).2⟩⟩
    · exact .iv _ _ (.any _)
  | .eloc id n i off, v, h => by
    simp only [scr]
    split
    · rename_i hc
      cases h with
      | eloc _ _ _ _ e2 sz2 es2 mv2 v2 xs b hob2 hL hn2 hv =>
        refine .eloc id n i off e2 sz2 (es2.map (scrL ids)) mv2 v2 xs b (hlo id _ hc hob2) hL (by simpa using hn2) fun hm => ?_
        obtain ⟨h1, h2, h3⟩ := hv hm
        exact ⟨h1, fun e => h2 (by simpa using e), fun k hk => ⟨(h3 k hk).1.imp (hok b) (fun h => h), (h3 k hk).2⟩⟩
    · exact .iv _ _ (.any _)
theorem scrL_rep {ok ok' : Nat → Prop} {lo lo' : Nat → Option AO} {ids : List Nat} (hok : ∀ b, ok b → ok' b) (hlo : ∀ id o, ids.contains id = true → lo id = some o → lo' id = some (scrO ids o)) :
    ∀ {cs : List AV} {vs : List Value}, vs.length = cs.length → (∀ (k : Nat) (x : AV) (u : Value), cs[k]? = some x → vs[k]? = some u → RepA ok w lo L x u) →
      vs.length = (scrL ids cs).length ∧ ∀ (k : Nat) (x : AV) (u : Value), (scrL ids cs)[k]? = some x → vs[k]? = some u → RepA ok' w lo' L x u
  | [], vs, hl, _ => ⟨by simpa [scrL] using hl, by simp [scrL]⟩
  | x :: r, [], hl, _ => by simp at hl
  | x :: r, v :: vs, hl, hx => by
    obtain ⟨h1, h2⟩ := scrL_rep hok hlo (cs := r) (vs := vs) (by simpa using hl) (fun k y u hy hu => hx (k + 1) y u (by simpa using hy) (by simpa using hu))
    refine ⟨by simp [scrL, h1], fun k y u hy hu => ?_⟩
    cases k with
    | zero =>
      simp [scrL] at hy hu
      subst hy hu
      exact scr_rep hok hlo (hx 0 x v (by simp) (by simp))
    | succ k => exact h2 k y u (by simpa [scrL] using hy) (by simpa using hu)
end

theorem scrL_len (ids : List Nat) : ∀ cs : List AV, (scrL ids cs).length = cs.length
  | [] => rfl
  | x :: r => by simp [scrL, scrL_len ids r]

theorem look_keepE (ids : List Nat) (e : Env) : ∀ (ks : List Nat) (t : Nat), look (keepE ks ids e) t = .iv .any ∨ look (keepE ks ids e) t = scr ids (look e t)
  | [], t => .inl rfl
  | k :: r, t => by
    simp only [keepE, List.map_cons, look]
    split
    · rename_i h; subst h; exact .inr rfl
    · exact look_keepE ids e r t

theorem lookO_keepO (all : List Nat) (o : Objs) : ∀ (l : List Nat) (id : Nat), lookO (keepO all o l) id = if l.contains id then (lookO o id).map (scrO all) else none
  | [], id => by simp [keepO, lookO]
  | i :: r, id => by
    simp only [keepO]
    split
    · rename_i x hx
      simp only [lookO, lookO_keepO all o r id]
      by_cases h : id = i
      · subst h; simp [hx]
      · simp [h]
    · rename_i hx
      rw [lookO_keepO all o r id]
      by_cases h : id = i
      · subst h; simp [hx]
      · simp [h]

theorem Rel.keep {e : Env} {o : Objs} (h : Rel ok0 N w0 (look e) (lookO o) a w L) (ks ids : List Nat) : Rel ok0 N w0 (look (keepE ks ids e)) (lookO (keepO ids o ids)) a w L := by
  have hlo : ∀ id ob, ids.contains id = true → lookO o id = some ob → lookO (keepO ids o ids) id = some (scrO ids ob) := by
    intro id ob hc hob
    rw [lookO_keepO, if_pos hc, hob]; rfl
  have hinv : ∀ id ob, lookO (keepO ids o ids) id = some ob → ∃ ob0, lookO o id = some ob0 ∧ ob = scrO ids ob0 := by
    intro id ob hob
    rw [lookO_keepO] at hob
    split at hob
    · cases hq : lookO o id with
      | none => simp [hq] at hob
      | some q => simp [hq] at hob; exact ⟨q, rfl, hob.symm⟩
    · cases hob
  have hok : ∀ b, okL ok0 (lookO o) L b → okL ok0 (lookO (keepO ids o ids)) L b := fun b hb =>
    ⟨hb.1, fun id ob hob => by obtain ⟨q, hq, _⟩ := hinv id ob hob; exact hb.2 id q hq⟩
  refine ⟨h.below, h.defers, h.size, fun t => ?_, fun id ob hob => ?_, fun i j oi oj b hij hi hj => ?_⟩
  · rcases look_keepE ids e ks t with hq | hq
    · rw [hq]; exact .iv _ _ (.any _)
    · rw [hq]; exact scr_rep hok hlo (h.env t)
  · obtain ⟨q, hq, rfl⟩ := hinv id ob hob
    have := h.objs id q hq
    revert this
    generalize L id = l
    intro this
    cases q with
    | box cs =>
      cases l with
      | arr v xs => exact this
      | box b =>
        obtain ⟨hB, t, vs, hb, hl, h1, hx⟩ := this
        obtain ⟨h2, h3⟩ := scrL_rep hok hlo hl hx
        exact ⟨hB, t, vs, hb, h2, h1, h3⟩
    | arr e sz es mv =>
      cases l with
      | box b => exact this
      | arr v xs =>
        obtain ⟨hown, hm, hs, h1, hx⟩ := this
        refine ⟨by rw [List.length_map]; exact hown, by rw [List.length_map]; exact hm, fun c hc => ?_, h1, fun i j c x u hi hj hu => ?_⟩
        · obtain ⟨d, hd, rfl⟩ := List.mem_map.1 hc
          rw [scrL_len]; exact hs d hd
        · rw [List.getElem?_map, Option.map_eq_some_iff] at hi
          obtain ⟨d, hd, rfl⟩ := hi
          have hjl : j < d.length := by rw [← scrL_len ids]; exact (List.getElem?_eq_some_iff.1 hj).1
          have hds : d.length = sz := hs d (List.mem_of_getElem? hd)
          have hil : i < es.length := (List.getElem?_eq_some_iff.1 hd).1
          -- the cells of this element
          have hvl : ((xs.drop (i * sz)).take sz).length = d.length := by
            have hxl : xs.length = es.length * sz := hown.1
            have : (i + 1) * sz ≤ es.length * sz := Nat.mul_le_mul_right sz hil
            rw [Nat.add_mul] at this
            simp; omega
          obtain ⟨_, h3⟩ := scrL_rep (cs := d) (vs := (xs.drop (i * sz)).take sz) hok hlo hvl (fun k y u' hy hu' => by
            rw [List.getElem?_take] at hu'
            split at hu'
            · rw [List.getElem?_drop] at hu'
              exact hx i k d y u' hd hy hu'
            · cases hu')
          refine h3 j x u hj ?_
          rw [List.getElem?_take, if_pos (by omega), List.getElem?_drop]
          exact hu
  · obtain ⟨p, hp, _⟩ := hinv i oi hi
    obtain ⟨q, hq, _⟩ := hinv j oj hj
    exact h.apart i j p q b hij hp hq

end
end Go.Ev

/- Soundness: a run of the evaluator over a function's body shows what a call of the function returns. -/
namespace Go.Ev
open Go Go.RowKit

section
variable {P : Program} {K : World → Prop} {ok0 : Nat → Prop} {N : Nat} {w0 : World} {a : Act} {w : World} {L : Nat → Lay} {e : Env} {o : Objs}

def resRun (tmps : Array Value) : ResultVar → Sem Value
  | .tmp t => pure (tmps.getD t undef)
  | .cell a t => do loadVar t (← asAddr (tmps.getD a undef))

theorem resV_run (h : Rel ok0 N w0 (look e) (lookO o) a w L) (hok0 : ∀ b, w0.heap.size ≤ b → ok0 b) {x : ARes} {rs : ResultVar} {y : IV}
    (hf : resFits P [x] [rs] = true) (hv : resV e o x = some y) : ∃ v, (resRun a.tmps rs).run P w = .ok v w ∧ RepI ok0 w y v := by
  have isound := imm_sound h hok0 (lo' := lookO o) (fun _ _ h => h) 40
  cases x with
  | tmp t =>
    cases rs with
    | cell => simp [resFits] at hf
    | tmp t' =>
      simp only [resFits, Bool.and_true, beq_iff_eq] at hf
      subst hf
      exact ⟨a.tmps.getD t undef, rfl, isound.1 _ _ y (h.env t) hv⟩
  | cell t n ag =>
    cases rs with
    | tmp => simp [resFits] at hf
    | cell t' T =>
      simp only [resFits, Bool.and_true, Bool.and_eq_true, beq_iff_eq] at hf
      obtain ⟨⟨rfl, hag⟩, hn⟩ := hf
      simp only [resV] at hv
      have het := h.env t
      generalize look e t = xv at hv het
      split at hv
      · rename_i id off
        split at hv
        · rename_i cs hcs
          have hob := h.objs _ _ hcs
          generalize hpv : a.tmps.getD t undef = pv at het
          cases het with
          | loc _ _ cs' b hob' hL =>
            rw [hcs] at hob'
            injection hob' with hob'
            injection hob' with hob'
            subst hob'
            rw [hL] at hob
            obtain ⟨hB, ty, vs, hb, hl, h1, hxx⟩ := hob
            have cell : ∀ (k : Nat) (u : Value), (vs.drop off)[k]? = some u → w.cell? ⟨b, off + k, none⟩ = some u := by
              intro k u hu
              rw [cell_of_row w b (off + k) _ ty (0, 0) hb]
              simpa [List.getElem?_drop] using hu
            split at hv
            · split at hv
              · rename_i hfit
                simp only [Option.map_eq_some_iff] at hv
                obtain ⟨ys, hys, rfl⟩ := hv
                obtain ⟨hyl, hyx⟩ := isound.2 _ ys hys
                have hlen : ((vs.drop off).take n).length = n := by simp; omega
                have hload := run_loadVar (w := w) hag hn b off ((vs.drop off).take n) hlen (by simp) (fun k u hu => cell k u (by
                  rw [List.getElem?_take] at hu; split at hu <;> first | exact hu | cases hu))
                refine ⟨.agg ((vs.drop off).take n).toArray, ?_, .agg ys _ ?_ (fun u hu => h1 u (List.mem_of_mem_drop (List.mem_of_mem_take hu))) (fun k y u hy hu => ?_)⟩
                · simp [resRun, hpv, asAddr, hload]
                · rw [hlen, hyl]; simp; omega
                · have hk : k < ((cs.drop off).take n).length := by rw [← hyl]; exact (List.getElem?_eq_some_iff.1 hy).1
                  have hck := List.getElem?_eq_getElem hk
                  refine hyx k _ y u hck hy ?_
                  rw [List.getElem?_take] at hck hu
                  split at hck
                  · rename_i hkn
                    rw [if_pos hkn] at hu
                    rw [List.getElem?_drop] at hck hu
                    exact hxx _ _ u hck hu
                  · cases hck
              · cases hv
            · split at hv
              · rename_i hn1
                subst hn1
                simp only [Option.bind_eq_some_iff] at hv
                obtain ⟨c, hc, hy⟩ := hv
                have hlt : off < vs.length := by rw [hl]; exact (List.getElem?_eq_some_iff.1 hc).1
                have hload := run_loadVar (w := w) hag hn b off [vs[off]] rfl (by simp) (fun k u hu => by
                  cases k with
                  | zero => simp at hu; subst hu; exact cell 0 _ (by simp [List.getElem?_drop, hlt])
                  | succ k => simp at hu)
                refine ⟨vs[off], ?_, isound.1 _ _ y (hxx off c _ hc (List.getElem?_eq_getElem hlt)) hy⟩
                simp [resRun, hpv, asAddr, hload]
              · cases hv
        · cases hv
      · cases hv

theorem resFits_cons {x : ARes} {r : List ARes} {rs : ResultVar} {s : List ResultVar} (h : resFits P (x :: r) (rs :: s) = true) : resFits P [x] [rs] = true ∧ resFits P r s = true := by
  cases x <;> cases rs <;> simp_all [resFits]

theorem resVs_run (h : Rel ok0 N w0 (look e) (lookO o) a w L) (hok0 : ∀ b, w0.heap.size ≤ b → ok0 b) : ∀ {res : List ARes} {rs : List ResultVar} {ys : List IV},
    resFits P res rs = true → resVs e o res = some ys → ∃ vs, (rs.mapM (resRun a.tmps)).run P w = .ok vs w ∧ vs.length = ys.length ∧
      ∀ (k : Nat) (y : IV) (v : Value), ys[k]? = some y → vs[k]? = some v → RepI ok0 w y v
  | [], [], ys, _, hv => by
    simp only [resVs, Option.some.injEq] at hv
    subst hv
    exact ⟨[], by simp, rfl, by simp⟩
  | x :: r, rs :: s, ys, hf, hv => by
    obtain ⟨h1, h2⟩ := resFits_cons hf
    simp only [resVs] at hv
    split at hv
    · rename_i y ys' hy hys
      injection hv with hv
      subst hv
      obtain ⟨v, hr, hrep⟩ := resV_run h hok0 h1 hy
      obtain ⟨vs, hrs, hl, hreps⟩ := resVs_run h hok0 h2 hys
      refine ⟨v :: vs, by simp [List.mapM_cons, hr, hrs], by simp [hl], fun k z u hz hu => ?_⟩
      cases k with
      | zero => simp at hz hu; subst hz hu; exact hrep
      | succ k => exact hreps k z u (by simpa using hz) (by simpa using hu)
    · cases hv
  | [], _ :: _, ys, hf, _ => by simp [resFits] at hf
  | x :: _, [], ys, hf, _ => by cases x <;> simp [resFits] at hf

theorem results_run {fn : Func} {res : List ARes} {r : IV} (h : Rel ok0 N w0 (look e) (lookO o) a w L) (hok0 : ∀ b, w0.heap.size ≤ b → ok0 b) (hf : resFits P res fn.results.toList = true) (hv : retV res e o = some r) :
    ∃ v, (results fn a.tmps).run P w = .ok v w ∧ RepI ok0 w r v := by
  have hfun : results fn a.tmps = (do
      let vs ← fn.results.mapM (resRun a.tmps)
      pure (if h : vs.size = 1 then vs[0] else .tuple vs)) := by
    unfold results
    congr 1
  rw [hfun, Array.mapM_eq_mapM_toList]
  unfold retV at hv
  split at hv
  · rename_i x hx
    injection hv with hv
    subst hv
    obtain ⟨vs, hrs, hl, hreps⟩ := resVs_run h hok0 hf hx
    obtain ⟨v, rfl⟩ : ∃ v, vs = [v] := by
      cases vs with
      | nil => simp at hl
      | cons v r => cases r with
        | nil => exact ⟨v, rfl⟩
        | cons => simp at hl
    exact ⟨v, by simp [hrs], hreps 0 x v (by simp) (by simp)⟩
  · rename_i xs hxs hne
    injection hv with hv
    subst hv
    obtain ⟨vs, hrs, hl, hreps⟩ := resVs_run h hok0 hf hne
    have hsz : ¬ (vs.length = 1) := by
      intro h1
      rw [hl] at h1
      cases xs with
      | nil => simp at h1
      | cons x r => cases r with
        | nil => exact hxs x rfl
        | cons => simp at h1
    exact ⟨.tuple vs.toArray, by simp [hrs, hsz], .tup xs vs hl hreps⟩
  · cases hv

theorem wp_sound {f : FuncId} {fn : Func} {res : List ARes} {r : IV} {b : Frame} {cs : List Frame} (c : Ctx P K ok0 w0) (hfn : P.funcs[f]? = some fn) (hres : resFits P res fn.results.toList = true)
    (hb : b.fn = f) (hbk : b.kind = .normal) {k : List AI} {e : Env} {o : Objs} (h : Wp P K res r k e o) :
    ∀ (k' : List Item) (a : Act) (w : World) (L : Nat → Lay), Fit P N k k' → Rel ok0 N w0 (look e) (lookO o) a w L →
      Reach P f cs (lone (b.at a k') cs w) (fun v w' => RepI ok0 w' r v ∧ Below w0.heap.size w0 w') := by
  have leave : ∀ (e : Env) (o : Objs) (k' : List Item) (a : Act) (w : World) (L : Nat → Lay), retV res e o = some r → Rel ok0 N w0 (look e) (lookO o) a w L →
      Reach P f cs (lone { b.at a k' with mode := .returning } cs w) (fun v w' => RepI ok0 w' r v ∧ Below w0.heap.size w0 w') := by
    intro e o k' a w L hv hr
    obtain ⟨v, h1, h2⟩ := results_run hr c.ok hres hv
    exact ⟨w, _, v, Steps.refl _ _, hb, ⟨rfl, hr.defers, hbk, fn, by simpa [Frame.at, hb] using hfn, h1⟩, h2, hr.below⟩
  induction h with
  | skip k e o _ ih =>
    intro k' a w L hfit hr
    cases hfit with
    | code _ c' _ k' h hk =>
      cases c' <;> simp only [codeFits, Bool.false_eq_true] at h
      exact .steps (.one step_skip) (ih k' a w L hk hr)
  | region l draw k e o C hrun _ ih =>
    intro k' a w L hfit hr
    cases hfit with
    | code _ c' _ k' h hk =>
      cases c' <;> simp only [codeFits, Bool.false_eq_true, Bool.and_eq_true, beq_iff_eq] at h
      rename_i id ops d
      obtain ⟨rfl, h⟩ := h
      have hof := h
      simp only [regionFits, Bool.and_eq_true] at hof
      obtain ⟨e', o', hp, hc⟩ := extract c l ops.toList e o a w L hof.1 hr hrun
      obtain ⟨x, a', w', hq, harr⟩ := region_wp (id := id) (Q' := fun x a w => x = .normal ∧ ∃ L, Rel ok0 N w0 (look e') (lookO o') a w L) c h hr hp (fun a w L h => ⟨rfl, L, h⟩) b k' cs
      obtain ⟨rfl, L', hr'⟩ := hq
      exact .steps harr (ih e' o' hc k' a' w' L' hk hr')
  | seq x y k e o _ ih =>
    intro k' a w L hfit hr
    cases hfit with
    | code _ c' _ k' h hk =>
      cases c' <;> simp only [codeFits, Bool.false_eq_true, Bool.and_eq_true] at h
      exact .steps (.one step_seq) (ih _ a w L (.code _ _ _ _ h.1 (.code _ _ _ _ h.2 hk)) hr)
  | cond cc x y k e o bb hc _ _ iht ihf =>
    intro k' a w L hfit hr
    cases hfit with
    | code _ c' _ k' h hk =>
      cases c' <;> simp only [codeFits, Bool.false_eq_true, Bool.and_eq_true] at h
      obtain ⟨⟨h1, h2⟩, h3⟩ := h
      have hv := Opd.rep hr h1
      rw [hc] at hv
      have hv := inv_bool hv
      refine .steps (.one (step_cond hv)) ?_
      cases bb
      · exact ihf rfl _ a w L (.code _ _ _ _ h3 hk) hr
      · exact iht rfl _ a w L (.code _ _ _ _ h2 hk) hr
  | block id cc k e o _ ih =>
    intro k' a w L hfit hr
    cases hfit with
    | code _ c' _ k' h hk =>
      cases c' <;> simp only [codeFits, Bool.false_eq_true, Bool.and_eq_true, beq_iff_eq] at h
      obtain ⟨rfl, h⟩ := h
      exact .steps (.one step_block) (ih _ a w L (.code _ _ _ _ h (.inBlock _ _ _ hk)) hr)
  | inBlock id k e o _ ih =>
    intro k' a w L hfit hr
    cases hfit with
    | inBlock _ _ k' hk => exact .steps (.one step_inBlock) (ih _ a w L hk hr)
  | scope cc k e o _ ih =>
    intro k' a w L hfit hr
    cases hfit with
    | code _ c' _ k' h hk =>
      cases c' <;> simp only [codeFits, Bool.false_eq_true] at h
      exact .steps (.one step_scope) (ih _ a w L (.code _ _ _ _ h (.inScope _ _ _ hk)) hr)
  | inScope k e o _ ih =>
    intro k' a w L hfit hr
    cases hfit with
    | inScope _ _ k' hk => exact .steps (.one step_inScope) (ih _ a w L hk hr)
  | label l k e o _ ih =>
    intro k' a w L hfit hr
    cases hfit with
    | code _ c' _ k' h hk =>
      cases c' <;> simp only [codeFits, Bool.false_eq_true, beq_iff_eq] at h
      exact .steps (.one step_label) (ih _ a w L hk hr)
  | loop cc ks ids k e o _ ih =>
    intro k' a w L hfit hr
    cases hfit with
    | code _ c' _ k' h hk =>
      cases c' <;> simp only [codeFits, Bool.false_eq_true] at h
      exact .steps (.one step_loop) (ih _ a w L (.code _ _ _ _ h (.inLoop _ _ _ _ _ _ h hk)) (hr.keep ks ids))
  | inLoop cc ks ids k e o _ ih =>
    intro k' a w L hfit hr
    cases hfit with
    | inLoop _ c' _ _ _ k' h hk => exact .steps (.one step_inLoop) (ih _ a w L (.code _ _ _ _ h (.inLoop _ _ _ _ _ _ h hk)) (hr.keep ks ids))
  | exit id k j e o hk _ ih =>
    intro k' a w L hfit hr
    cases hfit with
    | code _ c' _ k' h hkk =>
      cases c' <;> simp only [codeFits, Bool.false_eq_true, beq_iff_eq] at h
      subst h
      obtain ⟨j', h1, h2⟩ := hkk.exit hk
      exact .steps (.one (step_exit h1)) (ih j' a w L h2 hr)
  | ret k e o hv =>
    intro k' a w L hfit hr
    cases hfit with
    | code _ c' _ k' h hk =>
      cases c' <;> simp only [codeFits, Bool.false_eq_true] at h
      exact .steps (.one step_ret) (leave e o _ a w L hv hr)
  | done e o hv =>
    intro k' a w L hfit hr
    cases hfit
    exact .steps (.one step_end) (leave e o [] a w L hv hr)

/-- A function of the evaluator. -/
structure AFn where
  nt : Nat
  res : List ARes
  code : AC

def fnFits (P : Program) (fn : Func) (A : AFn) : Bool :=
  (match fn.body with | some c => codeFits P A.nt A.code c | none => false) && fn.ntmps == A.nt && resFits P A.res fn.results.toList

/-- 'A' is the function number 'f'. -/
def FnOk (P : Program) (f : FuncId) (A : AFn) : Prop := ∃ fn, P.funcs[f]? = some fn ∧ fnFits P fn A = true

def argEnv : Nat → List IV → Env
  | _, [] => []
  | i, x :: r => (i, .iv x) :: argEnv (i + 1) r

theorem look_argEnv : ∀ (xs : List IV) (i t : Nat), look (argEnv i xs) t = .iv .any ∨ ∃ x, i ≤ t ∧ xs[t - i]? = some x ∧ look (argEnv i xs) t = .iv x
  | [], i, t => .inl rfl
  | x :: r, i, t => by
    simp only [argEnv, look]
    split
    · rename_i h
      subst h
      exact .inr ⟨x, Nat.le_refl _, by simp, rfl⟩
    · rename_i h
      rcases look_argEnv r (i + 1) t with h1 | ⟨y, h1, h2, h3⟩
      · exact .inl h1
      · refine .inr ⟨y, by omega, ?_, h3⟩
        have : t - i = (t - (i + 1)) + 1 := by omega
        rw [this]
        simpa using h2

theorem good_of_wp {f : FuncId} {A : AFn} {xs : List IV} {r : IV} (hK : ∀ w w', K w → Below w.heap.size w w' → K w') (hok : FnOk P f A) (hlen : xs.length ≤ A.nt)
    (h : Wp P K A.res r [.code A.code] (argEnv 0 xs) []) : Good P K f xs r := by
  intro w ok vs hk hnew hvl hvs cs
  obtain ⟨fn, hfn, hok⟩ := hok
  unfold fnFits at hok
  · split at hok
    · rename_i c hbody
      simp only [Bool.and_eq_true, beq_iff_eq] at hok
      obtain ⟨⟨hfit, hnt⟩, hres⟩ := hok
      let b : Frame := { (default : Frame) with fn := f, kind := .normal }
      let a : Act := { tmps := vs.toArray ++ Array.replicate (fn.ntmps - vs.toArray.size) undef, defers := [] }
      have henter : Frame.enter P f vs.toArray .normal = b.at a [.code c] := by
        simp [Frame.enter, Frame.at, hfn, hbody, b, a]
      have hctx : Ctx P K ok w := ⟨hK, hk, hnew⟩
      have hrel : Rel ok A.nt w (look (argEnv 0 xs)) (lookO []) a w (fun _ => .box 0) := by
        refine ⟨Below.refl _ _, rfl, ?_, fun t => ?_, fun id o ho => by simp [lookO] at ho, fun i j oi oj b hij hi => by simp [lookO] at hi⟩
        · simp [a, hnt]; omega
        · rcases look_argEnv xs 0 t with h1 | ⟨x, _, h2, h3⟩
          · rw [h1]; exact .iv _ _ (.any _)
          · rw [h3]
            simp only [Nat.sub_zero] at h2
            have hlt : t < vs.length := by rw [hvl]; exact (List.getElem?_eq_some_iff.1 h2).1
            have hget : a.tmps.getD t undef = vs[t] := by
              simp [a, Array.getD_eq_getD_getElem?, Array.getElem?_append, hlt]
            rw [hget]
            exact .iv _ _ ((hvs t x _ h2 (List.getElem?_eq_getElem hlt)).mono fun b hb _ => ⟨⟨hb, fun id o ho => by simp [lookO] at ho⟩, rfl⟩)
      obtain ⟨w', fr, v, h1, h2, h3, h4⟩ := wp_sound (cs := cs) (b := b) hctx hfn hres rfl rfl h [.code c] a w _ (.code _ _ _ _ hfit .nil) hrel
      exact ⟨.returned v, w', fr, ⟨v, rfl, h4.1, h4.2⟩, by rw [henter]; exact h1, h2, h3⟩
    · simp at hok

end
end Go.Ev

/- How a run of the evaluator is reckoned by simp. -/
namespace Go.Ev
open Go Go.RowKit

def AOp.isCall : AOp → Bool
  | .call _ _ _ => true
  | .mov _ | .nilo _ _ _ | .pick _ _ _ | .ext _ _ | .not _ | .bin _ _ _ | .beq _ _ _ | .cvi _ _ | .cvs _ | .b2s _ | .i2s _ | .nilc _ | .fld _ _ | .ldi _ _ _ | .ldo _ _ _ _ | .sto _ _ _ _ | .ixi _ _ _ | .ixo _ _ _ _
  | .ixs _ _ | .sli _ _ _ _ | .sls _ _ _ | .boxi _ | .boxo _ _ | .alo _ _ | .bld _ _ | .bsl _ _ | .bso _ _ _ _ | .len _ | .leno _ _ | .lst _ | .app _ _ _ _ _ _ => false

section
variable {P : Program} {K : World → Prop} {res : List ARes} {r : IV}

def opK (P : Program) (K : World → Prop) (C : Env → Objs → Prop) (d : Option Nat) (l : List AOper) (e : Env) (o : Objs) : Res → Prop
  | .ok s f v up => s ∧ (f → runOps P K C l (bnd d v e) (upL up o))
  | .no => False

def gK (P : Program) (K : World → Prop) (C : Env → Objs → Prop) (d : Option Nat) (t : Nat) (b : Bool) (op : AOp) (l : List AOper) (e : Env) (o : Objs) : AV → Prop
  | .iv (.bool c) => (c = b → runOps P K C (⟨d, none, op⟩ :: l) (setE t (.iv (.bool b)) e) o) ∧ (c = !b → runOps P K C l (bnd d (.iv (.tup [])) (setE t (.iv (.bool (!b))) e)) o)
  | .iv (.tup []) => runOps P K C l (bnd d (.iv (.tup [])) (setE t (.iv (.tup [])) e)) o
  | _ => False

/-- A call comes: of the function g, on these arguments. -/
def callK (P : Program) (K : World → Prop) (C : Env → Objs → Prop) (d : Option Nat) (g : FuncId) (own : Bool) (l : List AOper) (e : Env) (o : Objs) (xs : Option (List IV)) : Prop :=
  ∃ ys r, xs = some ys ∧ Good P K g ys r ∧ (own = false ∨ scalar r = true) ∧ runOps P K C l (bnd d (.iv r) e) o

def condK (X Y : Prop) : AV → Prop
  | .iv (.bool b) => (b = true → X) ∧ (b = false → Y)
  | _ => False

@[simp] theorem gK_skip (C : Env → Objs → Prop) (d : Option Nat) (t : Nat) (b : Bool) (op : AOp) (l : List AOper) (e : Env) (o : Objs) : gK P K C d t b op l e o (.iv (.tup [])) = runOps P K C l (bnd d (.iv (.tup [])) (setE t (.iv (.tup [])) e)) o := rfl
@[simp] theorem opK_ok (C : Env → Objs → Prop) (d : Option Nat) (l : List AOper) (e : Env) (o : Objs) (s f : Prop) (v : AV) (up : Option (Nat × AO)) :
    opK P K C d l e o (.ok s f v up) = (s ∧ (f → runOps P K C l (bnd d v e) (upL up o))) := rfl
@[simp] theorem opK_no (C : Env → Objs → Prop) (d : Option Nat) (l : List AOper) (e : Env) (o : Objs) : opK P K C d l e o .no = False := rfl
@[simp] theorem gK_tt (C : Env → Objs → Prop) (d : Option Nat) (t : Nat) (c : Bool) (op : AOp) (l : List AOper) (e : Env) (o : Objs) (h : c = true) : gK P K C d t true op l e o (.iv (.bool c)) = runOps P K C (⟨d, none, op⟩ :: l) (setE t (.iv (.bool true)) e) o := by subst h; simp [gK]
@[simp] theorem gK_tf (C : Env → Objs → Prop) (d : Option Nat) (t : Nat) (c : Bool) (op : AOp) (l : List AOper) (e : Env) (o : Objs) (h : c = false) : gK P K C d t true op l e o (.iv (.bool c)) = runOps P K C l (bnd d (.iv (.tup [])) (setE t (.iv (.bool false)) e)) o := by subst h; simp [gK]
@[simp] theorem gK_ff (C : Env → Objs → Prop) (d : Option Nat) (t : Nat) (c : Bool) (op : AOp) (l : List AOper) (e : Env) (o : Objs) (h : c = false) : gK P K C d t false op l e o (.iv (.bool c)) = runOps P K C (⟨d, none, op⟩ :: l) (setE t (.iv (.bool false)) e) o := by subst h; simp [gK]
@[simp] theorem gK_ft (C : Env → Objs → Prop) (d : Option Nat) (t : Nat) (c : Bool) (op : AOp) (l : List AOper) (e : Env) (o : Objs) (h : c = true) : gK P K C d t false op l e o (.iv (.bool c)) = runOps P K C l (bnd d (.iv (.tup [])) (setE t (.iv (.bool true)) e)) o := by subst h; simp [gK]
@[simp] theorem gK_bt (C : Env → Objs → Prop) (d : Option Nat) (t : Nat) (c : Bool) (op : AOp) (l : List AOper) (e : Env) (o : Objs) : gK P K C d t true op l e o (.iv (.bool c)) =
    ((c = true → runOps P K C (⟨d, none, op⟩ :: l) (setE t (.iv (.bool true)) e) o) ∧ (c = false → runOps P K C l (bnd d (.iv (.tup [])) (setE t (.iv (.bool false)) e)) o)) := rfl
@[simp] theorem gK_bf (C : Env → Objs → Prop) (d : Option Nat) (t : Nat) (c : Bool) (op : AOp) (l : List AOper) (e : Env) (o : Objs) : gK P K C d t false op l e o (.iv (.bool c)) =
    ((c = false → runOps P K C (⟨d, none, op⟩ :: l) (setE t (.iv (.bool false)) e) o) ∧ (c = true → runOps P K C l (bnd d (.iv (.tup [])) (setE t (.iv (.bool true)) e)) o)) := rfl
@[simp] theorem condK_true (X Y : Prop) (b : Bool) (h : b = true) : condK X Y (.iv (.bool b)) = X := by subst h; simp [condK]
@[simp] theorem condK_false (X Y : Prop) (b : Bool) (h : b = false) : condK X Y (.iv (.bool b)) = Y := by subst h; simp [condK]
@[simp] theorem condK_bool (X Y : Prop) (b : Bool) : condK X Y (.iv (.bool b)) = ((b = true → X) ∧ (b = false → Y)) := rfl

theorem runOps_nil (C : Env → Objs → Prop) (e : Env) (o : Objs) : runOps P K C [] e o = C e o := rfl

theorem runOps_plain (C : Env → Objs → Prop) (d : Option Nat) (op : AOp) (l : List AOper) (e : Env) (o : Objs) (h : op.isCall = false) :
    runOps P K C (⟨d, none, op⟩ :: l) e o = opK P K C d l e o (ev (look e) (lookO o) op) := by
  simp only [runOps]
  cases op with
  | call g args ids => simp [AOp.isCall] at h
  | _ =>
    simp only [run1]
    unfold evK opK
    rfl

theorem st_mov (C : Env → Objs → Prop) (d : Option Nat) (x : Opd) (l : List AOper) (e : Env) (o : Objs) : runOps P K C (⟨d, none, .mov x⟩ :: l) e o = opK P K C d l e o (ev (look e) (lookO o) (.mov x)) := runOps_plain C d _ l e o rfl
theorem st_nilo (C : Env → Objs → Prop) (d : Option Nat) (id : Nat) (t : Nat) (sz : Nat) (l : List AOper) (e : Env) (o : Objs) : runOps P K C (⟨d, none, .nilo id t sz⟩ :: l) e o = opK P K C d l e o (ev (look e) (lookO o) (.nilo id t sz)) := runOps_plain C d _ l e o rfl
theorem st_pick (C : Env → Objs → Prop) (d : Option Nat) (c : Opd) (x : Opd) (y : Opd) (l : List AOper) (e : Env) (o : Objs) : runOps P K C (⟨d, none, .pick c x y⟩ :: l) e o = opK P K C d l e o (ev (look e) (lookO o) (.pick c x y)) := runOps_plain C d _ l e o rfl
theorem st_ext (C : Env → Objs → Prop) (d : Option Nat) (x : Opd) (i : Nat) (l : List AOper) (e : Env) (o : Objs) : runOps P K C (⟨d, none, .ext x i⟩ :: l) e o = opK P K C d l e o (ev (look e) (lookO o) (.ext x i)) := runOps_plain C d _ l e o rfl
theorem st_not (C : Env → Objs → Prop) (d : Option Nat) (x : Opd) (l : List AOper) (e : Env) (o : Objs) : runOps P K C (⟨d, none, .not x⟩ :: l) e o = opK P K C d l e o (ev (look e) (lookO o) (.not x)) := runOps_plain C d _ l e o rfl
theorem st_bin (C : Env → Objs → Prop) (d : Option Nat) (b : BinOp) (x : Opd) (y : Opd) (l : List AOper) (e : Env) (o : Objs) : runOps P K C (⟨d, none, .bin b x y⟩ :: l) e o = opK P K C d l e o (ev (look e) (lookO o) (.bin b x y)) := runOps_plain C d _ l e o rfl
theorem st_beq (C : Env → Objs → Prop) (d : Option Nat) (n : Bool) (x : Opd) (y : Opd) (l : List AOper) (e : Env) (o : Objs) : runOps P K C (⟨d, none, .beq n x y⟩ :: l) e o = opK P K C d l e o (ev (look e) (lookO o) (.beq n x y)) := runOps_plain C d _ l e o rfl
theorem st_cvi (C : Env → Objs → Prop) (d : Option Nat) (k : IntKind) (x : Opd) (l : List AOper) (e : Env) (o : Objs) : runOps P K C (⟨d, none, .cvi k x⟩ :: l) e o = opK P K C d l e o (ev (look e) (lookO o) (.cvi k x)) := runOps_plain C d _ l e o rfl
theorem st_cvs (C : Env → Objs → Prop) (d : Option Nat) (x : Opd) (l : List AOper) (e : Env) (o : Objs) : runOps P K C (⟨d, none, .cvs x⟩ :: l) e o = opK P K C d l e o (ev (look e) (lookO o) (.cvs x)) := runOps_plain C d _ l e o rfl
theorem st_b2s (C : Env → Objs → Prop) (d : Option Nat) (x : Opd) (l : List AOper) (e : Env) (o : Objs) : runOps P K C (⟨d, none, .b2s x⟩ :: l) e o = opK P K C d l e o (ev (look e) (lookO o) (.b2s x)) := runOps_plain C d _ l e o rfl
theorem st_i2s (C : Env → Objs → Prop) (d : Option Nat) (x : Opd) (l : List AOper) (e : Env) (o : Objs) : runOps P K C (⟨d, none, .i2s x⟩ :: l) e o = opK P K C d l e o (ev (look e) (lookO o) (.i2s x)) := runOps_plain C d _ l e o rfl
theorem st_nilc (C : Env → Objs → Prop) (d : Option Nat) (x : Opd) (l : List AOper) (e : Env) (o : Objs) : runOps P K C (⟨d, none, .nilc x⟩ :: l) e o = opK P K C d l e o (ev (look e) (lookO o) (.nilc x)) := runOps_plain C d _ l e o rfl
theorem st_fld (C : Env → Objs → Prop) (d : Option Nat) (n : Nat) (x : Opd) (l : List AOper) (e : Env) (o : Objs) : runOps P K C (⟨d, none, .fld n x⟩ :: l) e o = opK P K C d l e o (ev (look e) (lookO o) (.fld n x)) := runOps_plain C d _ l e o rfl
theorem st_ldi (C : Env → Objs → Prop) (d : Option Nat) (n : Nat) (g : Bool) (x : Opd) (l : List AOper) (e : Env) (o : Objs) : runOps P K C (⟨d, none, .ldi n g x⟩ :: l) e o = opK P K C d l e o (ev (look e) (lookO o) (.ldi n g x)) := runOps_plain C d _ l e o rfl
theorem st_ldo (C : Env → Objs → Prop) (d : Option Nat) (id : Nat) (n : Nat) (g : Bool) (x : Opd) (l : List AOper) (e : Env) (o : Objs) : runOps P K C (⟨d, none, .ldo id n g x⟩ :: l) e o = opK P K C d l e o (ev (look e) (lookO o) (.ldo id n g x)) := runOps_plain C d _ l e o rfl
theorem st_sto (C : Env → Objs → Prop) (d : Option Nat) (id : Nat) (n : Nat) (x : Opd) (y : Opd) (l : List AOper) (e : Env) (o : Objs) : runOps P K C (⟨d, none, .sto id n x y⟩ :: l) e o = opK P K C d l e o (ev (look e) (lookO o) (.sto id n x y)) := runOps_plain C d _ l e o rfl
theorem st_ixi (C : Env → Objs → Prop) (d : Option Nat) (sz : Nat) (x : Opd) (i : Opd) (l : List AOper) (e : Env) (o : Objs) : runOps P K C (⟨d, none, .ixi sz x i⟩ :: l) e o = opK P K C d l e o (ev (look e) (lookO o) (.ixi sz x i)) := runOps_plain C d _ l e o rfl
theorem st_ixo (C : Env → Objs → Prop) (d : Option Nat) (id : Nat) (sz : Nat) (x : Opd) (i : Opd) (l : List AOper) (e : Env) (o : Objs) : runOps P K C (⟨d, none, .ixo id sz x i⟩ :: l) e o = opK P K C d l e o (ev (look e) (lookO o) (.ixo id sz x i)) := runOps_plain C d _ l e o rfl
theorem st_ixs (C : Env → Objs → Prop) (d : Option Nat) (x : Opd) (i : Opd) (l : List AOper) (e : Env) (o : Objs) : runOps P K C (⟨d, none, .ixs x i⟩ :: l) e o = opK P K C d l e o (ev (look e) (lookO o) (.ixs x i)) := runOps_plain C d _ l e o rfl
theorem st_sli (C : Env → Objs → Prop) (d : Option Nat) (sz : Nat) (x : Opd) (i : Option Opd) (j : Option Opd) (l : List AOper) (e : Env) (o : Objs) : runOps P K C (⟨d, none, .sli sz x i j⟩ :: l) e o = opK P K C d l e o (ev (look e) (lookO o) (.sli sz x i j)) := runOps_plain C d _ l e o rfl
theorem st_sls (C : Env → Objs → Prop) (d : Option Nat) (x : Opd) (i : Option Opd) (j : Option Opd) (l : List AOper) (e : Env) (o : Objs) : runOps P K C (⟨d, none, .sls x i j⟩ :: l) e o = opK P K C d l e o (ev (look e) (lookO o) (.sls x i j)) := runOps_plain C d _ l e o rfl
theorem st_boxi (C : Env → Objs → Prop) (d : Option Nat) (x : Opd) (l : List AOper) (e : Env) (o : Objs) : runOps P K C (⟨d, none, .boxi x⟩ :: l) e o = opK P K C d l e o (ev (look e) (lookO o) (.boxi x)) := runOps_plain C d _ l e o rfl
theorem st_boxo (C : Env → Objs → Prop) (d : Option Nat) (id : Nat) (x : Opd) (l : List AOper) (e : Env) (o : Objs) : runOps P K C (⟨d, none, .boxo id x⟩ :: l) e o = opK P K C d l e o (ev (look e) (lookO o) (.boxo id x)) := runOps_plain C d _ l e o rfl
theorem st_alo (C : Env → Objs → Prop) (d : Option Nat) (id : Nat) (zs : List Opd) (l : List AOper) (e : Env) (o : Objs) : runOps P K C (⟨d, none, .alo id zs⟩ :: l) e o = opK P K C d l e o (ev (look e) (lookO o) (.alo id zs)) := runOps_plain C d _ l e o rfl
theorem st_bld (C : Env → Objs → Prop) (d : Option Nat) (zs : List Opd) (ps : List (Nat × Nat × Opd)) (l : List AOper) (e : Env) (o : Objs) : runOps P K C (⟨d, none, .bld zs ps⟩ :: l) e o = opK P K C d l e o (ev (look e) (lookO o) (.bld zs ps)) := runOps_plain C d _ l e o rfl
theorem st_bsl (C : Env → Objs → Prop) (d : Option Nat) (sz : Nat) (ps : List Opd) (l : List AOper) (e : Env) (o : Objs) : runOps P K C (⟨d, none, .bsl sz ps⟩ :: l) e o = opK P K C d l e o (ev (look e) (lookO o) (.bsl sz ps)) := runOps_plain C d _ l e o rfl
theorem st_bso (C : Env → Objs → Prop) (d : Option Nat) (id : Nat) (t : Nat) (sz : Nat) (ps : List Opd) (l : List AOper) (e : Env) (o : Objs) : runOps P K C (⟨d, none, .bso id t sz ps⟩ :: l) e o = opK P K C d l e o (ev (look e) (lookO o) (.bso id t sz ps)) := runOps_plain C d _ l e o rfl
theorem st_len (C : Env → Objs → Prop) (d : Option Nat) (x : Opd) (l : List AOper) (e : Env) (o : Objs) : runOps P K C (⟨d, none, .len x⟩ :: l) e o = opK P K C d l e o (ev (look e) (lookO o) (.len x)) := runOps_plain C d _ l e o rfl
theorem st_leno (C : Env → Objs → Prop) (d : Option Nat) (id : Nat) (x : Opd) (l : List AOper) (e : Env) (o : Objs) : runOps P K C (⟨d, none, .leno id x⟩ :: l) e o = opK P K C d l e o (ev (look e) (lookO o) (.leno id x)) := runOps_plain C d _ l e o rfl
theorem st_lst (C : Env → Objs → Prop) (d : Option Nat) (x : Opd) (l : List AOper) (e : Env) (o : Objs) : runOps P K C (⟨d, none, .lst x⟩ :: l) e o = opK P K C d l e o (ev (look e) (lookO o) (.lst x)) := runOps_plain C d _ l e o rfl
theorem st_app (C : Env → Objs → Prop) (d : Option Nat) (id : Nat) (t : Nat) (sz : Nat) (n : Nat) (x : Opd) (y : Opd) (l : List AOper) (e : Env) (o : Objs) : runOps P K C (⟨d, none, .app id t sz n x y⟩ :: l) e o = opK P K C d l e o (ev (look e) (lookO o) (.app id t sz n x y)) := runOps_plain C d _ l e o rfl

theorem runOps_call (C : Env → Objs → Prop) (d : Option Nat) (g : FuncId) (args : List Opd) (ids : List Nat) (l : List AOper) (e : Env) (o : Objs) :
    runOps P K C (⟨d, none, .call g args ids⟩ :: l) e o = callK P K C d g (!ids.isEmpty) l e o (peek (lookO o) ids (args.map (·.av (look e)))) := by
  simp only [runOps, run1, callK, upL]
  congr
  funext xs
  congr
  funext r
  cases ids <;> simp

theorem runOps_guard (C : Env → Objs → Prop) (d : Option Nat) (t : Nat) (b : Bool) (op : AOp) (l : List AOper) (e : Env) (o : Objs) :
    runOps P K C (⟨d, some (t, b), op⟩ :: l) e o = gK P K C d t b op l e o (look e t) := by
  simp only [runOps]
  generalize look e t = v
  cases v with
  | iv x =>
    cases x with
    | tup cs => cases cs <;> rfl
    | _ => rfl
  | _ => rfl

theorem callK_of {C : Env → Objs → Prop} {d : Option Nat} {g : FuncId} {own : Bool} {l : List AOper} {e : Env} {o : Objs} {ys : List IV} {r : IV} (hg : Good P K g ys r) (hs : own = false ∨ scalar r = true)
    (h : runOps P K C l (bnd d (.iv r) e) o) : callK P K C d g own l e o (some ys) := ⟨ys, r, rfl, hg, hs, h⟩

theorem Wp_skip (k : List AI) (e : Env) (o : Objs) : Wp P K res r (.code .skip :: k) e o ↔ Wp P K res r k e o :=
  ⟨fun h => by cases h; assumption, .skip k e o⟩
theorem Wp_seq (x y : AC) (k : List AI) (e : Env) (o : Objs) : Wp P K res r (.code (.seq x y) :: k) e o ↔ Wp P K res r (.code x :: .code y :: k) e o :=
  ⟨fun h => by cases h; assumption, .seq x y k e o⟩
theorem Wp_ops (l : List AOper) (draw : Bool) (k : List AI) (e : Env) (o : Objs) : Wp P K res r (.code (.ops l draw) :: k) e o ↔ runOps P K (Wp P K res r k) l e o :=
  ⟨fun h => by cases h with | region _ _ _ _ _ C h hC => exact runOps_mono hC l e o h, fun h => .region l draw k e o _ h fun _ _ h => h⟩
theorem Wp_cond (c : Opd) (x y : AC) (k : List AI) (e : Env) (o : Objs) : Wp P K res r (.code (.cond c x y) :: k) e o ↔ condK (Wp P K res r (.code x :: k) e o) (Wp P K res r (.code y :: k) e o) (c.av (look e)) := by
  constructor
  · intro h
    cases h with
    | cond _ _ _ _ _ _ b hc ht hf => rw [hc]; exact ⟨ht, hf⟩
  · intro h
    unfold condK at h
    split at h
    · rename_i b hb
      exact .cond c x y k e o b hb h.1 h.2
    · exact h.elim
theorem Wp_block (id : Nat) (c : AC) (k : List AI) (e : Env) (o : Objs) : Wp P K res r (.code (.block id c) :: k) e o ↔ Wp P K res r (.code c :: .inBlock id :: k) e o :=
  ⟨fun h => by cases h; assumption, .block id c k e o⟩
theorem Wp_inBlock (id : Nat) (k : List AI) (e : Env) (o : Objs) : Wp P K res r (.inBlock id :: k) e o ↔ Wp P K res r k e o :=
  ⟨fun h => by cases h; assumption, .inBlock id k e o⟩
theorem Wp_scope (c : AC) (k : List AI) (e : Env) (o : Objs) : Wp P K res r (.code (.scope c) :: k) e o ↔ Wp P K res r (.code c :: .inScope :: k) e o :=
  ⟨fun h => by cases h; assumption, .scope c k e o⟩
theorem Wp_inScope (k : List AI) (e : Env) (o : Objs) : Wp P K res r (.inScope :: k) e o ↔ Wp P K res r k e o :=
  ⟨fun h => by cases h; assumption, .inScope k e o⟩
theorem Wp_label (l : Nat) (k : List AI) (e : Env) (o : Objs) : Wp P K res r (.code (.label l) :: k) e o ↔ Wp P K res r k e o :=
  ⟨fun h => by cases h; assumption, .label l k e o⟩
theorem Wp_ret (k : List AI) (e : Env) (o : Objs) : Wp P K res r (.code .ret :: k) e o ↔ retV res e o = some r :=
  ⟨fun h => by cases h; assumption, .ret k e o⟩
theorem Wp_nil (e : Env) (o : Objs) : Wp P K res r [] e o ↔ retV res e o = some r :=
  ⟨fun h => by cases h; assumption, .done e o⟩

def exitK (P : Program) (K : World → Prop) (res : List ARes) (r : IV) (e : Env) (o : Objs) : Option (List AI) → Prop
  | some k => Wp P K res r k e o
  | none => False
@[simp] theorem exitK_some (k : List AI) (e : Env) (o : Objs) : exitK P K res r e o (some k) = Wp P K res r k e o := rfl
theorem Wp_exit (id : Nat) (k : List AI) (e : Env) (o : Objs) : Wp P K res r (.code (.exit id) :: k) e o ↔ exitK P K res r e o (exitA id k) := by
  constructor
  · intro h
    cases h with
    | exit _ _ k' _ _ hk h => rw [hk]; exact h
  · intro h
    unfold exitK at h
    split at h
    · rename_i k' hk
      exact .exit id k k' e o hk h
    · exact h.elim

theorem Wp_loop (c : AC) (ks ids : List Nat) (k : List AI) (e : Env) (o : Objs) : Wp P K res r (.code (.loop c ks ids) :: k) e o ↔ Wp P K res r (.inLoop c ks ids :: k) e o :=
  ⟨fun h => by cases h; exact .inLoop _ _ _ _ _ _ (by assumption), fun h => by cases h; exact .loop _ _ _ _ _ _ (by assumption)⟩

/-- The loop's head: what is given up at it is given up already. -/
theorem Wp_inLoop_keep (c : AC) (ks ids : List Nat) (k : List AI) (e : Env) (o : Objs) : Wp P K res r (.inLoop c ks ids :: k) e o ↔ Wp P K res r (.code c :: .inLoop c ks ids :: k) (keepE ks ids e) (keepO ids o ids) :=
  ⟨fun h => by cases h; assumption, fun h => .inLoop _ _ _ _ _ _ h⟩

/-- The loop's head, the slots and objects that live on given. -/
def LoopAt (P : Program) (K : World → Prop) (res : List ARes) (r : IV) (c : AC) (ks ids : List Nat) (k : List AI) (e : Env) (o : Objs) : Prop :=
  Wp P K res r (.code c :: .inLoop c ks ids :: k) e o

theorem Wp_inLoop (c : AC) (ks ids : List Nat) (k : List AI) (e : Env) (o : Objs) : Wp P K res r (.inLoop c ks ids :: k) e o ↔ LoopAt P K res r c ks ids k (keepE ks ids e) (keepO ids o ids) := Wp_inLoop_keep c ks ids k e o
theorem LoopAt_iff (c : AC) (ks ids : List Nat) (k : List AI) (e : Env) (o : Objs) : LoopAt P K res r c ks ids k e o ↔ Wp P K res r (.code c :: .inLoop c ks ids :: k) e o := Iff.rfl

/-- A loop that goes up to n. -/
theorem loop_up {c : AC} {ks ids : List Nat} {k : List AI} (st : Nat → Env) (so : Nat → Objs) (n : Nat) (hn : LoopAt P K res r c ks ids k (st n) (so n))
    (hs : ∀ i, i < n → LoopAt P K res r c ks ids k (st (i + 1)) (so (i + 1)) → LoopAt P K res r c ks ids k (st i) (so i)) : LoopAt P K res r c ks ids k (st 0) (so 0) := by
  have : ∀ m, m ≤ n → LoopAt P K res r c ks ids k (st (n - m)) (so (n - m)) := by
    intro m
    induction m with
    | zero => intro _; simpa using hn
    | succ m ih =>
      intro hm
      have h1 := ih (by omega)
      have e1 : n - m = (n - (m + 1)) + 1 := by omega
      rw [e1] at h1
      exact hs _ (by omega) h1
  have := this n (Nat.le_refl _)
  simpa using this

end

attribute [simp] st_mov st_nilo st_pick st_ext st_not st_bin st_beq st_cvi st_cvs st_b2s st_i2s st_nilc st_fld st_ldi st_ldo st_sto st_ixi st_ixo st_ixs st_sli st_sls st_boxi st_boxo st_alo st_bld st_bsl st_bso st_len st_leno st_lst st_app
attribute [simp] runOps_nil runOps_call runOps_guard Wp_skip Wp_seq Wp_scope Wp_inScope Wp_label Wp_ops Wp_cond Wp_block Wp_inBlock Wp_ret Wp_nil Wp_exit Wp_loop Wp_inLoop
attribute [simp] look lookO bnd setE setOL upL ev Opd.av evPick evExt evNot evBin evInt evBeq evCvi evCvs evB2s evI2s evNilc evFld evLdi evLdo evSto evIxi evIxo evIxs evSli evSls evBoxi evBoxo evLen evLeno evLst evApp
attribute [simp] AV.iv? ivs mkAgg AV.cells fillA rowsA ivss byteOf bytesOf optNat exitA keepE keepO scr scrL scrO resV resVs retV imm imms immss argEnv peek scalar scalars

end Go.Ev

/- Rules for loops, and for how numbers are reckoned. -/
namespace Go.Ev
open Go Go.RowKit
section
variable {P : Program} {K : World → Prop} {res : List ARes} {r : IV}

/-- A loop that goes up to n, or leaves before; what is known at its head. -/
theorem loop_q {c : AC} {ks ids : List Nat} {k : List AI} (st : Nat → Env) (so : Nat → Objs) (n : Nat) (Q : Nat → Prop) (h0 : Q 0)
    (hn : Q n → LoopAt P K res r c ks ids k (st n) (so n))
    (hs : ∀ i, i < n → Q i → (Q (i + 1) → LoopAt P K res r c ks ids k (st (i + 1)) (so (i + 1))) → LoopAt P K res r c ks ids k (st i) (so i)) : LoopAt P K res r c ks ids k (st 0) (so 0) := by
  have : ∀ m, m ≤ n → Q (n - m) → LoopAt P K res r c ks ids k (st (n - m)) (so (n - m)) := by
    intro m
    induction m with
    | zero => intro _ h; simpa using hn (by simpa using h)
    | succ m ih =>
      intro hm hq
      have h1 := ih (by omega)
      have e1 : n - m = (n - (m + 1)) + 1 := by omega
      rw [e1] at h1
      exact hs _ (by omega) hq h1
  have := this n (Nat.le_refl _)
  simp at this
  exact this h0

/-- A loop with a state that is found out as it goes. -/
theorem loop_i {c : AC} {ks ids : List Nat} {k : List AI} (n : Nat) (I : Nat → Env → Objs → Prop)
    (hn : ∀ e o, I n e o → LoopAt P K res r c ks ids k e o)
    (hs : ∀ i e o, i < n → I i e o → (∀ e' o', I (i + 1) e' o' → LoopAt P K res r c ks ids k e' o') → LoopAt P K res r c ks ids k e o)
    (e : Env) (o : Objs) (h0 : I 0 e o) : LoopAt P K res r c ks ids k e o := by
  have : ∀ m, m ≤ n → ∀ e o, I (n - m) e o → LoopAt P K res r c ks ids k e o := by
    intro m
    induction m with
    | zero => intro _ e o h; exact hn e o (by simpa using h)
    | succ m ih =>
      intro hm e o hi
      have h1 := ih (by omega)
      have e1 : n - m = (n - (m + 1)) + 1 := by omega
      rw [e1] at h1
      exact hs _ e o (by omega) hi h1
  exact this n (Nat.le_refl _) e o (by simpa using h0)
end

section
variable {P : Program} {K : World → Prop} {res : List ARes} {r : IV}
theorem LoopAt_enter {c c' : AC} (h : c = c') (ks ids : List Nat) (k : List AI) (e : Env) (o : Objs) : LoopAt P K res r c ks ids k e o ↔ Wp P K res r (.code c' :: .inLoop c ks ids :: k) e o := by subst h; exact Iff.rfl

theorem LoopAt_congr {c : AC} {ks ids : List Nat} {k : List AI} {e e' : Env} {o o' : Objs} (h1 : e = e') (h2 : o = o') : LoopAt P K res r c ks ids k e o = LoopAt P K res r c ks ids k e' o' := by subst h1 h2; rfl
theorem Wp_congr {k : List AI} {e e' : Env} {o o' : Objs} (h1 : e = e') (h2 : o = o') : Wp P K res r k e o = Wp P K res r k e' o' := by subst h1 h2; rfl
theorem runOps_congr {C : Env → Objs → Prop} {l l' : List AOper} {e e' : Env} {o o' : Objs} (h0 : l = l') (h1 : e = e') (h2 : o = o') : runOps P K C l e o = runOps P K C l' e' o' := by subst h0 h1 h2; rfl
theorem opK_congr {C : Env → Objs → Prop} {d : Option Nat} {l : List AOper} {e : Env} {o : Objs} {R R' : Res} (h : R = R') : opK P K C d l e o R = opK P K C d l e o R' := by subst h; rfl
theorem gK_congr {C : Env → Objs → Prop} {d : Option Nat} {t : Nat} {b : Bool} {op : AOp} {l : List AOper} {e : Env} {o : Objs} {v v' : AV} (h : v = v') : gK P K C d t b op l e o v = gK P K C d t b op l e o v' := by subst h; rfl
theorem callK_congr {C : Env → Objs → Prop} {d : Option Nat} {g : FuncId} {own own' : Bool} {l : List AOper} {e : Env} {o : Objs} {v v' : Option (List IV)} (h : own = own') (h' : v = v') : callK P K C d g own l e o v = callK P K C d g own' l e o v' := by subst h h'; rfl
theorem condK_congr {X Y : Prop} {v v' : AV} (h : v = v') : condK X Y v = condK X Y v' := by subst h; rfl
end

@[simp] theorem inR_i64 (n : Int) : IntKind.inR .i64 n ↔ -9223372036854775808 ≤ n ∧ n ≤ 9223372036854775807 := Iff.rfl
@[simp] theorem inR_u64 (n : Int) : IntKind.inR .u64 n ↔ 0 ≤ n ∧ n ≤ 18446744073709551615 := Iff.rfl
@[simp] theorem inR_u8 (n : Int) : IntKind.inR .u8 n ↔ 0 ≤ n ∧ n ≤ 255 := Iff.rfl
@[simp] theorem inR_i32 (n : Int) : IntKind.inR .i32 n ↔ -2147483648 ≤ n ∧ n ≤ 2147483647 := Iff.rfl
theorem maxLen_val : maxLen = 9223372036854775807 := rfl

theorem wrap_i64 {n : Int} (h : -9223372036854775808 ≤ n) (h' : n ≤ 9223372036854775807) : IntKind.wrap .i64 n = n := by
  unfold IntKind.wrap
  simp [IntKind.bits, IntKind.signed]
  omega
theorem wrap_u64 {n : Int} (h : 0 ≤ n) (h' : n ≤ 18446744073709551615) : IntKind.wrap .u64 n = n := by
  unfold IntKind.wrap
  simp [IntKind.bits, IntKind.signed]
  omega
theorem wrap_u8 {n : Int} (h : 0 ≤ n) (h' : n ≤ 255) : IntKind.wrap .u8 n = n := by
  unfold IntKind.wrap
  simp [IntKind.bits, IntKind.signed]
  omega

end Go.Ev

/- How shifts and bits are reckoned, on natural numbers. -/
namespace Go.Ev
open Go Go.RowKit

theorem shr_nat (k : IntKind) (hk : k.bits = 64) (a i : Nat) (ha : a < 2 ^ 64) : shrV k (a : Int) (i : Int) = ((a >>> i : Nat) : Int) := by
  unfold shrV
  rw [hk]
  have : ((i : Int)).toNat = i := rfl
  rw [this]
  have e : (2 ^ (min i 64) : Int) = ((2 ^ (min i 64) : Nat) : Int) := by push_cast; rfl
  rw [e, Int.fdiv_eq_ediv_of_nonneg _ (Int.natCast_nonneg _), ← Int.natCast_ediv, Nat.shiftRight_eq_div_pow]
  by_cases h : i ≤ 64
  · rw [Nat.min_eq_left h]
  · rw [Nat.min_eq_right (by omega), Nat.div_eq_of_lt ha, Nat.div_eq_of_lt]
    exact Nat.lt_of_lt_of_le ha (Nat.pow_le_pow_right (by omega) (by omega))

theorem shl_u64 (a i : Nat) (hi : i < 64) (ha : a * 2 ^ i < 2 ^ 64) : shlV .u64 (a : Int) (i : Int) = ((a * 2 ^ i : Nat) : Int) := by
  unfold shlV
  have : ((i : Int)).toNat = i := rfl
  rw [this, show (IntKind.u64).bits = 64 from rfl, Nat.min_eq_left (by omega)]
  have e : (a : Int) * (2 ^ i : Int) = ((a * 2 ^ i : Nat) : Int) := by push_cast; rfl
  rw [e]
  exact wrap_u64 (Int.natCast_nonneg _) (by omega)
theorem shl_i64 (a i : Nat) (hi : i < 64) (ha : a * 2 ^ i < 2 ^ 63) : shlV .i64 (a : Int) (i : Int) = ((a * 2 ^ i : Nat) : Int) := by
  unfold shlV
  have : ((i : Int)).toNat = i := rfl
  rw [this, show (IntKind.i64).bits = 64 from rfl, Nat.min_eq_left (by omega)]
  have e : (a : Int) * (2 ^ i : Int) = ((a * 2 ^ i : Nat) : Int) := by push_cast; rfl
  rw [e]
  exact wrap_i64 (by omega) (by omega)

theorem ofInt_toNat (a : Nat) (ha : a < 2 ^ 64) : (BitVec.ofInt 64 (a : Int)).toNat = a := by
  simp
  omega

theorem and_u64 (a b : Nat) (ha : a < 2 ^ 64) (hb : b < 2 ^ 64) : bitOp .and .u64 (a : Int) (b : Int) = ((a &&& b : Nat) : Int) := by
  show IntKind.wrap .u64 ((BitVec.ofInt 64 (a : Int) &&& BitVec.ofInt 64 (b : Int)).toNat : Int) = _
  rw [BitVec.toNat_and, ofInt_toNat a (by omega), ofInt_toNat b (by omega)]
  have : a &&& b < 2 ^ 64 := Nat.and_lt_two_pow _ hb
  exact wrap_u64 (Int.natCast_nonneg _) (by omega)
theorem or_u64 (a b : Nat) (ha : a < 2 ^ 64) (hb : b < 2 ^ 64) : bitOp .or .u64 (a : Int) (b : Int) = ((a ||| b : Nat) : Int) := by
  show IntKind.wrap .u64 ((BitVec.ofInt 64 (a : Int) ||| BitVec.ofInt 64 (b : Int)).toNat : Int) = _
  rw [BitVec.toNat_or, ofInt_toNat a (by omega), ofInt_toNat b (by omega)]
  have : a ||| b < 2 ^ 64 := Nat.or_lt_two_pow ha hb
  exact wrap_u64 (Int.natCast_nonneg _) (by omega)
theorem xor_u64 (a b : Nat) (ha : a < 2 ^ 64) (hb : b < 2 ^ 64) : bitOp .xor .u64 (a : Int) (b : Int) = ((a ^^^ b : Nat) : Int) := by
  show IntKind.wrap .u64 ((BitVec.ofInt 64 (a : Int) ^^^ BitVec.ofInt 64 (b : Int)).toNat : Int) = _
  rw [BitVec.toNat_xor, ofInt_toNat a (by omega), ofInt_toNat b (by omega)]
  have : a ^^^ b < 2 ^ 64 := Nat.xor_lt_two_pow ha hb
  exact wrap_u64 (Int.natCast_nonneg _) (by omega)
theorem and_i64 (a b : Nat) (ha : a < 2 ^ 63) (hb : b < 2 ^ 63) : bitOp .and .i64 (a : Int) (b : Int) = ((a &&& b : Nat) : Int) := by
  show IntKind.wrap .i64 ((BitVec.ofInt 64 (a : Int) &&& BitVec.ofInt 64 (b : Int)).toNat : Int) = _
  rw [BitVec.toNat_and, ofInt_toNat a (by omega), ofInt_toNat b (by omega)]
  have : a &&& b < 2 ^ 63 := Nat.and_lt_two_pow _ hb
  exact wrap_i64 (by omega) (by omega)
theorem or_i64 (a b : Nat) (ha : a < 2 ^ 63) (hb : b < 2 ^ 63) : bitOp .or .i64 (a : Int) (b : Int) = ((a ||| b : Nat) : Int) := by
  show IntKind.wrap .i64 ((BitVec.ofInt 64 (a : Int) ||| BitVec.ofInt 64 (b : Int)).toNat : Int) = _
  rw [BitVec.toNat_or, ofInt_toNat a (by omega), ofInt_toNat b (by omega)]
  have : a ||| b < 2 ^ 63 := Nat.or_lt_two_pow ha hb
  exact wrap_i64 (by omega) (by omega)
theorem xor_i64 (a b : Nat) (ha : a < 2 ^ 63) (hb : b < 2 ^ 63) : bitOp .xor .i64 (a : Int) (b : Int) = ((a ^^^ b : Nat) : Int) := by
  show IntKind.wrap .i64 ((BitVec.ofInt 64 (a : Int) ^^^ BitVec.ofInt 64 (b : Int)).toNat : Int) = _
  rw [BitVec.toNat_xor, ofInt_toNat a (by omega), ofInt_toNat b (by omega)]
  have : a ^^^ b < 2 ^ 63 := Nat.xor_lt_two_pow ha hb
  exact wrap_i64 (by omega) (by omega)

theorem and_one (a : Nat) (i : Nat) : (a >>> i) &&& 1 = (a.testBit i).toNat := by
  rw [Nat.testBit, Nat.and_comm]
  have h := Nat.one_and_eq_mod_two (a >>> i)
  rw [h]
  rcases Nat.mod_two_eq_zero_or_one (a >>> i) with e | e <;> simp [e]

theorem bit_u64 (a i : Nat) (ha : a < 2 ^ 64) : bitOp .and .u64 (shrV .u64 (a : Int) (i : Int)) 1 = ((a.testBit i).toNat : Int) := by
  rw [shr_nat _ rfl a i ha]
  have h : a >>> i < 2 ^ 64 := Nat.lt_of_le_of_lt (by rw [Nat.shiftRight_eq_div_pow]; exact Nat.div_le_self _ _) ha
  have := and_u64 (a >>> i) 1 h (by omega)
  rw [and_one] at this
  simpa using this
theorem bit_i64 (a i : Nat) (ha : a < 2 ^ 63) : bitOp .and .i64 (shrV .i64 (a : Int) (i : Int)) 1 = ((a.testBit i).toNat : Int) := by
  rw [shr_nat _ rfl a i (by omega)]
  have h : a >>> i < 2 ^ 63 := Nat.lt_of_le_of_lt (by rw [Nat.shiftRight_eq_div_pow]; exact Nat.div_le_self _ _) ha
  have := and_i64 (a >>> i) 1 h (by omega)
  rw [and_one] at this
  simpa using this

theorem toNat_one (b : Bool) : ((b.toNat : Int) = 1) ↔ b = true := by cases b <;> simp
theorem toNat_le_one (b : Bool) : b.toNat ≤ 1 := by cases b <;> decide

end Go.Ev

/- Rows of data inside an own object. -/
namespace Go.Ev
open Go Go.RowKit

/-- Rows of data, as rows of an own object. -/
def emb (L : List (List IV)) : List (List AV) := L.map (List.map AV.iv)

@[simp] theorem emb_length (L : List (List IV)) : (emb L).length = L.length := by simp [emb]
@[simp] theorem emb_app (L ys : List (List IV)) : emb L ++ List.map (List.map AV.iv) ys = emb (L ++ ys) := by simp [emb]
@[simp] theorem emb_app1 (L : List (List IV)) (a : IV) : emb L ++ [[.iv a]] = emb (L ++ [[a]]) := by simp [emb]
@[simp] theorem emb_app2 (L : List (List IV)) (a b : IV) : emb L ++ [[.iv a, .iv b]] = emb (L ++ [[a, b]]) := by simp [emb]
@[simp] theorem emb_app3 (L : List (List IV)) (a b c : IV) : emb L ++ [[.iv a, .iv b, .iv c]] = emb (L ++ [[a, b, c]]) := by simp [emb]
@[simp] theorem emb_app4 (L : List (List IV)) (a b c d : IV) : emb L ++ [[.iv a, .iv b, .iv c, .iv d]] = emb (L ++ [[a, b, c, d]]) := by simp [emb]
@[simp] theorem emb_app0 (L : List (List IV)) : emb L ++ [] = emb L := List.append_nil _
@[simp] theorem emb_take (L : List (List IV)) (n : Nat) : (emb L).take n = emb (L.take n) := by simp [emb, List.map_take]
@[simp] theorem emb_get (L : List (List IV)) (n : Nat) : (emb L)[n]? = (L[n]?).map (List.map AV.iv) := by simp [emb]
@[simp] theorem emb_getElem (L : List (List IV)) (n : Nat) (h : n < (emb L).length) : (emb L)[n] = (L[n]'(by simpa using h)).map AV.iv := by simp [emb]
@[simp] theorem emb_set1 (L : List (List IV)) (n : Nat) (a : IV) : (emb L).set n [.iv a] = emb (L.set n [a]) := by simp [emb, List.map_set]
@[simp] theorem emb_set2 (L : List (List IV)) (n : Nat) (a b : IV) : (emb L).set n [.iv a, .iv b] = emb (L.set n [a, b]) := by simp [emb, List.map_set]
@[simp] theorem ivs_iv (l : List IV) : ivs (l.map AV.iv) = some l := by
  induction l with
  | nil => rfl
  | cons a l ih => simp [ivs, ih, AV.iv?]
@[simp] theorem ivss_emb (L : List (List IV)) : ivss (emb L) = some L := by
  induction L with
  | nil => rfl
  | cons a l ih =>
    show (match ivs (a.map AV.iv), ivss (emb l) with
    | some y, some ys => some (y :: ys)
    | _, _ => none) = _
    rw [ih, ivs_iv]
theorem scrL_iv (ids : List Nat) (c : List IV) : scrL ids (c.map AV.iv) = c.map AV.iv := by
  induction c with
  | nil => rfl
  | cons a l ih => simp [scrL, scr, ih]
@[simp] theorem scr_emb (ids : List Nat) (L : List (List IV)) : List.map (scrL ids) (emb L) = emb L := by
  simp only [emb, List.map_map]
  apply List.map_congr_left
  intro c _
  exact scrL_iv ids c
@[simp] theorem take_map_len {α β : Type} (f : α → β) (l : List α) : List.take l.length (l.map f) = l.map f := by
  rw [List.take_of_length_le]
  simp
theorem emb_nil : emb [] = [] := rfl
theorem emb_one (c : List IV) : emb [c] = [c.map AV.iv] := rfl
end Go.Ev
