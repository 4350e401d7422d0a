/- The abstract interpreter: running code, with rounds counted, and its limit with the equations by which it is used. -/
import Derived.Test.YtaojijahpdnjhaaAshDefs
set_option linter.all false
namespace Go.Ash

abbrev CallF := Nat → List AVal → Heap → Option (AVal × Heap)

/-- The number of a callee's block, for its caller. -/
def back (l : List Nat) (n j : Nat) : Nat :=
  match l, j with
  | [], j => n + j
  | i :: _, 0 => i
  | _ :: l, j + 1 => back l n j

def putBack (ρ : Nat → Nat) : Heap → List Nat → Heap → Heap
  | H, id :: l, b :: H' => putBack ρ (H.set id (b.map (Blk.ren ρ))) l H'
  | H, _, _ => H

/-- A call on what is reached from the arguments alone: the blocks are numbered anew for it, and back. -/
def rawCall (call : CallF) (f : Nat) (args : List AVal) (H : Heap) : Option (AVal × Heap) :=
  (reach H fuelIds (idsL args) []).bind fun l =>
    if l.all (fun i => decide (i < H.length)) then
      (call f (renL (place l) args) (pack H l)).bind fun (v, H') =>
        some (v.ren (back l H.length), putBack (back l H.length) H l H' ++ (H'.drop l.length).map (Option.map (Blk.ren (back l H.length))))
    else none

/-- A call with trees, which answers a tree. -/
def pureCall (call : CallF) (f : Nat) (args : List AVal) : Option AVal :=
  (call f args []).bind fun (v, H) => (treeL H fuelTree [v]).bind fun (ts, _) => ts.head?

def anyCall (call : CallF) (raw : Bool) (f : Nat) (args : List AVal) (H : Heap) : Option (AVal × Heap) :=
  if raw then rawCall call f args H
  else (handOn args H).bind fun (ts, H') => (pureCall call f ts).map fun v => (v, H')

def stepOp (call : CallF) (K : OpK) (args : List AVal) (H : Heap) : Option (AVal × Heap) :=
  match K, args with
  | .call raw f, vs => anyCall call raw f vs H
  | .callv raw, .fn f first cap :: vs => anyCall call raw f (first ++ vs ++ cap) H
  | K, vs => (opSem K vs H H.length).map fun (v, e) => (v, e.apply H)

/-- Is an operation to be done? -/
def wantedA (env : List AVal) : Option (Nat × Bool) → Option Bool
  | none => some true
  | some (j, want) =>
    match gd env j with
    | .bool b => some (b == want)
    | .tup [] => some false
    | _ => none

/-- A store beside loads in any order: none of them reads the block that is stored to. -/
def apartA (a : AVal) (others : List AVal) : Bool :=
  match others with
  | [] => true
  | _ => match a with
    | .mptr id _ _ => others.all fun | .mptr id' _ _ => id != id' | .ptr _ => true | .tup [] => true | _ => false
    | _ => false

def stepROp (call : CallF) (o : ROp) (env : List AVal) (st : St) : Option (AVal × St) :=
  match wantedA env o.guard with
  | none => none
  | some false => some (.tup [], st.put o.dst (.tup []))
  | some true =>
    if apartA (gd (o.args.map (st.opd env)) 0) (o.apart.map (st.opd env)) then
      match stepOp call o.k (o.args.map (st.opd env)) st.heap with
      | some (v, H) => some (v, { st with heap := H }.put o.dst v)
      | none => none
    else none

def execOps (call : CallF) : List ROp → List AVal → St → Option St
  | [], env, st => some { st with env }
  | o :: os, env, st =>
    match stepROp call o env st with
    | some (v, st') => execOps call os (v :: env) st'
    | none => none

/-- At a loop's head: what is not read again is forgotten, and the blocks are numbered anew. -/
def mask : List Bool → List AVal → List AVal
  | true :: ms, v :: vs => v :: mask ms vs
  | false :: ms, _ :: vs => .und :: mask ms vs
  | [], vs => vs.map fun _ => .und
  | _ :: _, [] => []

def tidy (live : List Bool) (st : St) : Option St :=
  if st.heap.length = st.pin ∧ idsL (mask live st.vars) = [] then some { st with vars := mask live st.vars, env := [] } else
  (reach st.heap fuelIds (List.range st.pin ++ idsL (mask live st.vars)) []).map fun l =>
    { vars := renL (place l) (mask live st.vars), env := [], heap := pack st.heap l, pin := st.pin }

def execC (call : CallF) (again : RCode → St → Option (Ex × St)) : RCode → St → Option (Ex × St)
  | .skip, st => some (.normal, st)
  | .region ops _, st => match execOps call ops [] st with
    | some st' => some (.normal, st')
    | none => none
  | .seq a b, st => match execC call again a st with
    | some (.normal, st') => execC call again b st'
    | r => r
  | .cond c t e, st => match st.opd st.env c with
    | .bool b => if b = true then execC call again t st else execC call again e st
    | _ => none
  | .block id b, st => match execC call again b st with
    | some (.exit j, st') => if j = id then some (.normal, st') else some (.exit j, st')
    | r => r
  | .loop live b, st => match tidy live st with
    | some st1 => match execC call again b st1 with
      | some (.normal, st2) => again (.loop live b) st2
      | some (e, st2) => some (e, { st2 with env := [] })
      | none => none
    | none => none
  | .exit id, st => some (.exit id, st)
  | .ret, st => some (.ret, st)

def RFunc.enter (fn : RFunc) (args : List AVal) (H : Heap) : St :=
  { vars := fn.slots.map fun t => if t < fn.npar then gd args t else .und, env := [], heap := H, pin := H.length }

def resA (st : St) : RRes → Option AVal
  | .v i => some (gd st.vars i)
  | .cell i agg sz => (opSem (.load agg sz) [gd st.vars i] st.heap 0).map (·.1)

def resL (st : St) : List RRes → Option (List AVal)
  | [] => some []
  | r :: rs => match resA st r with
    | some v => match resL st rs with
      | some vs => some (v :: vs)
      | none => none
    | none => none

def tupled : List AVal → AVal
  | [v] => v
  | vs => .tup vs

/-- What a call leaves: its value, the blocks that it was handed, and the new ones that are reached. -/
def RFunc.leave (fn : RFunc) (st : St) : Option (AVal × Heap) :=
  (resL st fn.res).bind fun vs =>
    let v := tupled vs
    if st.heap.length = st.pin then some (v, st.heap) else
    (reach st.heap fuelIds (List.range st.pin ++ v.ids) []).map fun l => (v.ren (place l), pack st.heap l)

def runWith (F : Nat → Option RFunc) (ex : RCode → St → Option (Ex × St)) : CallF := fun f args H =>
  match F f with
  | some fn =>
    if args.length = fn.npar then
      match ex fn.body (fn.enter args H) with
      | some (.exit _, _) => none
      | some (_, st) => fn.leave st
      | none => none
    else none
  | none => none

def execN (F : Nat → Option RFunc) : Nat → RCode → St → Option (Ex × St)
  | 0, _, _ => none
  | n + 1, c, st => execC (runWith F (execN F n)) (execN F n) c st

def runN (F : Nat → Option RFunc) (n : Nat) : CallF := runWith F (execN F n)

/-! ### More rounds tell the same -/

def LeF {α β : Type} (f g : α → Option β) : Prop := ∀ a r, f a = some r → g a = some r
def LeC (f g : CallF) : Prop := ∀ k a H r, f k a H = some r → g k a H = some r
def LeX (f g : RCode → St → Option (Ex × St)) : Prop := ∀ c st r, f c st = some r → g c st = some r

theorem rawCall_mono {f g : CallF} (h : LeC f g) {k args H r} (hr : rawCall f k args H = some r) : rawCall g k args H = some r := by
  unfold rawCall at *
  cases hl : reach H fuelIds (idsL args) [] with
  | none => rw [hl] at hr; exact hr
  | some l =>
    rw [hl] at hr
    simp only [Option.bind_some] at hr ⊢
    split at hr
    · rename_i hb
      rw [if_pos hb]
      cases hc : f k (renL (place l) args) (pack H l) with
      | none => rw [hc] at hr; simp at hr
      | some x => rw [hc] at hr; rw [h _ _ _ _ hc]; exact hr
    · simp at hr

theorem pureCall_mono {f g : CallF} (h : LeC f g) {k args r} (hr : pureCall f k args = some r) : pureCall g k args = some r := by
  unfold pureCall at *
  cases hc : f k args [] with
  | none => rw [hc] at hr; simp at hr
  | some x => rw [hc] at hr; rw [h _ _ _ _ hc]; exact hr

theorem anyCall_mono {f g : CallF} (h : LeC f g) {raw k args H r} (hr : anyCall f raw k args H = some r) : anyCall g raw k args H = some r := by
  unfold anyCall at *
  split at hr
  · rename_i hb; rw [if_pos hb]; exact rawCall_mono h hr
  · rename_i hb
    rw [if_neg hb]
    cases hh : handOn args H with
    | none => rw [hh] at hr; exact hr
    | some x =>
      rw [hh] at hr
      simp only [Option.bind_some, Option.map_eq_some_iff] at hr ⊢
      obtain ⟨v, hv, rfl⟩ := hr
      exact ⟨v, pureCall_mono h hv, rfl⟩

theorem stepOp_mono {f g : CallF} (h : LeC f g) {K args H r} (hr : stepOp f K args H = some r) : stepOp g K args H = some r := by
  unfold stepOp at *
  split at hr
  · exact anyCall_mono h hr
  · exact anyCall_mono h hr
  · exact hr

theorem stepROp_mono {f g : CallF} (h : LeC f g) {o env st r} (hr : stepROp f o env st = some r) : stepROp g o env st = some r := by
  unfold stepROp at *
  split at hr
  · exact hr
  · exact hr
  · split at hr
    · rename_i hap
      rw [if_pos hap]
      cases hc : stepOp f o.k (o.args.map (st.opd env)) st.heap with
      | none => rw [hc] at hr; simp at hr
      | some x => rw [hc] at hr; rw [stepOp_mono h hc]; exact hr
    · simp at hr

theorem execOps_mono {f g : CallF} (h : LeC f g) : ∀ {os env st r}, execOps f os env st = some r → execOps g os env st = some r
  | [], _, _, _, hr => hr
  | o :: os, env, st, r, hr => by
    simp only [execOps] at hr ⊢
    cases hc : stepROp f o env st with
    | none => rw [hc] at hr; simp at hr
    | some x => rw [hc] at hr; rw [stepROp_mono h hc]; exact execOps_mono h hr

theorem execC_mono {f g : CallF} {x y : RCode → St → Option (Ex × St)} (h : LeC f g) (hx : LeX x y) :
    ∀ {c st r}, execC f x c st = some r → execC g y c st = some r := by
  intro c
  induction c with
  | skip => intro st r hr; exact hr
  | exit id => intro st r hr; exact hr
  | ret => intro st r hr; exact hr
  | region ops draw =>
    intro st r hr
    simp only [execC] at hr ⊢
    cases hc : execOps f ops [] st with
    | none => rw [hc] at hr; simp at hr
    | some s => rw [hc] at hr; rw [execOps_mono h hc]; exact hr
  | seq a b iha ihb =>
    intro st r hr
    simp only [execC] at hr ⊢
    cases hc : execC f x a st with
    | none => rw [hc] at hr; simp at hr
    | some s =>
      rw [hc] at hr; rw [iha hc]
      obtain ⟨e, s⟩ := s
      cases e with
      | normal => exact ihb hr
      | exit id => exact hr
      | ret => exact hr
  | cond c t e iht ihe =>
    intro st r hr
    simp only [execC] at hr ⊢
    split at hr
    · rename_i b hb
      split at hr
      · rename_i hb'; subst hb'; simp only [if_true]; exact iht hr
      · rename_i hb'
        have : b = false := by cases b <;> simp_all
        subst this; simp only [Bool.false_eq_true, if_false]; exact ihe hr
    · simp at hr
  | block id b ih =>
    intro st r hr
    simp only [execC] at hr ⊢
    cases hc : execC f x b st with
    | none => rw [hc] at hr; simp at hr
    | some s => rw [hc] at hr; rw [ih hc]; exact hr
  | loop live b ih =>
    intro st r hr
    simp only [execC] at hr ⊢
    cases ht : tidy live st with
    | none => rw [ht] at hr; simp at hr
    | some st1 =>
      rw [ht] at hr
      simp only at hr ⊢
      cases hc : execC f x b st1 with
      | none => rw [hc] at hr; simp at hr
      | some s =>
        rw [hc] at hr; rw [ih hc]
        obtain ⟨e, s⟩ := s
        cases e with
        | normal => exact hx _ _ _ hr
        | exit id => exact hr
        | ret => exact hr

theorem runWith_mono {F : Nat → Option RFunc} {x y : RCode → St → Option (Ex × St)} (hx : LeX x y) : LeC (runWith F x) (runWith F y) := by
  intro k a H r hr
  unfold runWith at *
  cases hF : F k with
  | none => rw [hF] at hr; simp at hr
  | some fn =>
    rw [hF] at hr
    simp only at hr ⊢
    split at hr
    · rename_i hl
      rw [if_pos hl]
      cases hc : x fn.body (fn.enter a H) with
      | none => rw [hc] at hr; simp at hr
      | some s => rw [hc] at hr; rw [hx _ _ _ hc]; exact hr
    · simp at hr

theorem execN_succ {F : Nat → Option RFunc} : ∀ n, LeX (execN F n) (execN F (n + 1))
  | 0 => fun _ _ _ h => by simp [execN] at h
  | n + 1 => fun c st r h => by
    have ih := execN_succ (F := F) n
    simp only [execN] at h ⊢
    exact execC_mono (runWith_mono ih) ih h

theorem execN_mono {F : Nat → Option RFunc} {n m : Nat} (hnm : n ≤ m) : LeX (execN F n) (execN F m) := by
  induction hnm with
  | refl => exact fun _ _ _ h => h
  | step _ ih => exact fun c st r h => execN_succ _ _ _ _ (ih c st r h)

/-! ### The limit -/

open Classical in
noncomputable def exec (F : Nat → Option RFunc) (c : RCode) (st : St) : Option (Ex × St) :=
  if h : ∃ r n, execN F n c st = some r then some h.choose else none

noncomputable def run (F : Nat → Option RFunc) : CallF := runWith F (exec F)

theorem exec_iff {F : Nat → Option RFunc} {c : RCode} {st : St} {r : Ex × St} : exec F c st = some r ↔ ∃ n, execN F n c st = some r := by
  unfold exec
  constructor
  · intro h
    split at h
    · rename_i hex
      obtain ⟨n, hn⟩ := hex.choose_spec
      cases h
      exact ⟨n, hn⟩
    · simp at h
  · rintro ⟨n, hn⟩
    have hex : ∃ r n, execN F n c st = some r := ⟨r, n, hn⟩
    rw [dif_pos hex]
    obtain ⟨m, hm⟩ := hex.choose_spec
    have h1 := execN_mono (Nat.le_max_left n m) _ _ _ hn
    have h2 := execN_mono (Nat.le_max_right n m) _ _ _ hm
    rw [h1] at h2
    exact h2.symm

theorem execN_le {F : Nat → Option RFunc} (n : Nat) : LeX (execN F n) (exec F) := fun _ _ _ h => exec_iff.2 ⟨n, h⟩

theorem runN_le {F : Nat → Option RFunc} (n : Nat) : LeC (runN F n) (run F) := runWith_mono (execN_le n)

theorem run_of_runN {F : Nat → Option RFunc} (n : Nat) {f args H r} (h : runN F n f args H = some r) : run F f args H = some r := runN_le n _ _ _ _ h

/-- What the limit tells is told at some round. -/
theorem run_iff {F : Nat → Option RFunc} {f args H r} : run F f args H = some r ↔ ∃ n, runN F n f args H = some r := by
  constructor
  · intro h
    unfold run runWith at h
    cases hF : F f with
    | none => rw [hF] at h; simp at h
    | some fn =>
      rw [hF] at h
      simp only at h
      split at h
      · rename_i hl
        cases hc : exec F fn.body (fn.enter args H) with
        | none => rw [hc] at h; simp at h
        | some s =>
          rw [hc] at h
          obtain ⟨n, hn⟩ := exec_iff.1 hc
          refine ⟨n, ?_⟩
          unfold runN runWith
          rw [hF]
          simp only
          rw [if_pos hl, hn]
          exact h
      · simp at h
  · rintro ⟨n, hn⟩; exact run_of_runN n hn

theorem rawCall_iff {F : Nat → Option RFunc} {k args H r} (hr : rawCall (run F) k args H = some r) : ∃ n, rawCall (runN F n) k args H = some r := by
  unfold rawCall at *
  cases hl : reach H fuelIds (idsL args) [] with
  | none => rw [hl] at hr; simp at hr
  | some l =>
    rw [hl] at hr
    simp only [Option.bind_some] at hr ⊢
    split at hr
    · rename_i hb
      cases hc : run F k (renL (place l) args) (pack H l) with
      | none => rw [hc] at hr; simp at hr
      | some x =>
        obtain ⟨n, hn⟩ := run_iff.1 hc
        exact ⟨n, by rw [if_pos hb]; rw [hc] at hr; rw [hn]; exact hr⟩
    · simp at hr

theorem pureCall_iff {F : Nat → Option RFunc} {k args r} (hr : pureCall (run F) k args = some r) : ∃ n, pureCall (runN F n) k args = some r := by
  unfold pureCall at *
  cases hc : run F k args [] with
  | none => rw [hc] at hr; simp at hr
  | some x =>
    obtain ⟨n, hn⟩ := run_iff.1 hc
    exact ⟨n, by rw [hc] at hr; rw [hn]; exact hr⟩

theorem anyCall_iff {F : Nat → Option RFunc} {raw k args H r} (hr : anyCall (run F) raw k args H = some r) : ∃ n, anyCall (runN F n) raw k args H = some r := by
  unfold anyCall at *
  split at hr
  · rename_i hb
    obtain ⟨n, hn⟩ := rawCall_iff hr
    exact ⟨n, by rw [if_pos hb]; exact hn⟩
  · rename_i hb
    cases hh : handOn args H with
    | none => rw [hh] at hr; simp at hr
    | some x =>
      rw [hh] at hr
      simp only [Option.bind_some, Option.map_eq_some_iff] at hr
      obtain ⟨v, hv, rfl⟩ := hr
      obtain ⟨n, hn⟩ := pureCall_iff hv
      exact ⟨n, by rw [if_neg hb]; simp only [Option.bind_some, hn, Option.map_some]⟩

theorem stepOp_iff {F : Nat → Option RFunc} {K args H r} (hr : stepOp (run F) K args H = some r) : ∃ n, stepOp (runN F n) K args H = some r := by
  unfold stepOp at hr
  split at hr
  · obtain ⟨n, hn⟩ := anyCall_iff hr; exact ⟨n, by unfold stepOp; exact hn⟩
  · obtain ⟨n, hn⟩ := anyCall_iff hr; exact ⟨n, by unfold stepOp; exact hn⟩
  · rename_i h1 h2
    exact ⟨0, (stepOp.eq_3 _ _ _ _ h1 h2).trans hr⟩

theorem stepROp_iff {F : Nat → Option RFunc} {o env st r} (hr : stepROp (run F) o env st = some r) : ∃ n, stepROp (runN F n) o env st = some r := by
  unfold stepROp at hr
  split at hr
  · simp at hr
  · rename_i hw; exact ⟨0, by unfold stepROp; rw [hw]; exact hr⟩
  · rename_i hw
    split at hr
    · rename_i hap
      cases hc : stepOp (run F) o.k (o.args.map (st.opd env)) st.heap with
      | none => rw [hc] at hr; simp at hr
      | some x =>
        obtain ⟨n, hn⟩ := stepOp_iff hc
        exact ⟨n, by unfold stepROp; rw [hw]; simp only; rw [if_pos hap, hn]; rw [hc] at hr; exact hr⟩
    · simp at hr

theorem execOps_iff {F : Nat → Option RFunc} : ∀ {os env st r}, execOps (run F) os env st = some r → ∃ n, execOps (runN F n) os env st = some r
  | [], _, _, _, hr => ⟨0, hr⟩
  | o :: os, env, st, r, hr => by
    simp only [execOps] at hr ⊢
    cases hc : stepROp (run F) o env st with
    | none => rw [hc] at hr; simp at hr
    | some x =>
      rw [hc] at hr
      obtain ⟨n, hn⟩ := stepROp_iff hc
      obtain ⟨m, hm⟩ := execOps_iff hr
      refine ⟨max n m, ?_⟩
      have hn' := stepROp_mono (runWith_mono (execN_mono (Nat.le_max_left n m))) hn
      have hm' := execOps_mono (runWith_mono (execN_mono (Nat.le_max_right n m))) hm
      simp only [runN] at *
      rw [hn']
      exact hm'

theorem execC_iff {F : Nat → Option RFunc} : ∀ {c st r}, execC (run F) (exec F) c st = some r → ∃ n, execC (runN F n) (execN F n) c st = some r := by
  intro c
  have up : ∀ {n m : Nat} {c : RCode} {st : St} {r : Ex × St}, n ≤ m → execC (runN F n) (execN F n) c st = some r → execC (runN F m) (execN F m) c st = some r :=
    fun hnm h => execC_mono (runWith_mono (execN_mono hnm)) (execN_mono hnm) h
  induction c with
  | skip => intro st r hr; exact ⟨0, hr⟩
  | exit id => intro st r hr; exact ⟨0, hr⟩
  | ret => intro st r hr; exact ⟨0, hr⟩
  | region ops draw =>
    intro st r hr
    simp only [execC] at hr ⊢
    cases hc : execOps (run F) ops [] st with
    | none => rw [hc] at hr; simp at hr
    | some s => obtain ⟨n, hn⟩ := execOps_iff hc; exact ⟨n, by rw [hc] at hr; rw [hn]; exact hr⟩
  | seq a b iha ihb =>
    intro st r hr
    simp only [execC] at hr ⊢
    cases hc : execC (run F) (exec F) a st with
    | none => rw [hc] at hr; simp at hr
    | some s =>
      obtain ⟨n, hn⟩ := iha hc
      rw [hc] at hr
      obtain ⟨e, s⟩ := s
      cases e with
      | normal =>
        obtain ⟨m, hm⟩ := ihb hr
        exact ⟨max n m, by rw [up (Nat.le_max_left n m) hn]; exact up (Nat.le_max_right n m) hm⟩
      | exit id => exact ⟨n, by rw [hn]; exact hr⟩
      | ret => exact ⟨n, by rw [hn]; exact hr⟩
  | cond c t e iht ihe =>
    intro st r hr
    simp only [execC] at hr ⊢
    split at hr
    · rename_i b hb
      split at hr
      · rename_i hb'; subst hb'; obtain ⟨n, hn⟩ := iht hr; exact ⟨n, by simpa only [hb, if_true] using hn⟩
      · rename_i hb'
        have : b = false := by cases b <;> simp_all
        subst this
        obtain ⟨n, hn⟩ := ihe hr; exact ⟨n, by simpa only [hb, Bool.false_eq_true, if_false] using hn⟩
    · simp at hr
  | block id b ih =>
    intro st r hr
    simp only [execC] at hr ⊢
    cases hc : execC (run F) (exec F) b st with
    | none => rw [hc] at hr; simp at hr
    | some s => obtain ⟨n, hn⟩ := ih hc; exact ⟨n, by rw [hc] at hr; rw [hn]; exact hr⟩
  | loop live b ih =>
    intro st r hr
    simp only [execC] at hr ⊢
    cases ht : tidy live st with
    | none => rw [ht] at hr; simp at hr
    | some st1 =>
      rw [ht] at hr
      simp only at hr ⊢
      cases hc : execC (run F) (exec F) b st1 with
      | none => rw [hc] at hr; simp at hr
      | some s =>
        obtain ⟨n, hn⟩ := ih hc
        rw [hc] at hr
        obtain ⟨e, s⟩ := s
        cases e with
        | normal =>
          obtain ⟨m, hm⟩ := exec_iff.1 hr
          refine ⟨max n m, ?_⟩
          rw [up (Nat.le_max_left n m) hn]
          exact execN_mono (Nat.le_max_right n m) _ _ _ hm
        | exit id => exact ⟨n, by rw [hn]; exact hr⟩
        | ret => exact ⟨n, by rw [hn]; exact hr⟩

theorem exec_eq (F : Nat → Option RFunc) (c : RCode) (st : St) : exec F c st = execC (run F) (exec F) c st := by
  have h1 : ∀ r, exec F c st = some r → execC (run F) (exec F) c st = some r := by
    intro r h
    obtain ⟨n, hn⟩ := exec_iff.1 h
    cases n with
    | zero => simp [execN] at hn
    | succ n =>
      simp only [execN] at hn
      exact execC_mono (runN_le n) (execN_le n) hn
  have h2 : ∀ r, execC (run F) (exec F) c st = some r → exec F c st = some r := by
    intro r h
    obtain ⟨n, hn⟩ := execC_iff h
    exact exec_iff.2 ⟨n + 1, hn⟩
  cases h : exec F c st with
  | some r => exact (h1 r h).symm
  | none =>
    cases h' : execC (run F) (exec F) c st with
    | none => rfl
    | some r => rw [h2 r h'] at h; simp at h

section
variable {F : Nat → Option RFunc} {st : St}
theorem exec_skip : exec F .skip st = some (.normal, st) := by rw [exec_eq]; rfl
theorem exec_exit {id : Nat} : exec F (.exit id) st = some (.exit id, st) := by rw [exec_eq]; rfl
theorem exec_ret : exec F .ret st = some (.ret, st) := by rw [exec_eq]; rfl
theorem exec_region {ops : List ROp} {d : Bool} : exec F (.region ops d) st = match execOps (run F) ops [] st with
    | some st' => some (.normal, st')
    | none => none := by rw [exec_eq]; rfl
theorem exec_seq {a b : RCode} : exec F (.seq a b) st = match exec F a st with
    | some (.normal, st') => exec F b st'
    | r => r := by
  rw [exec_eq]; simp only [execC]; rw [← exec_eq]; split <;> first | rw [exec_eq] | rfl
theorem exec_cond {c : Opd} {t e : RCode} : exec F (.cond c t e) st = match st.opd st.env c with
    | .bool b => if b = true then exec F t st else exec F e st
    | _ => none := by
  rw [exec_eq]; simp only [execC]; split <;> first | rfl | (rw [← exec_eq, ← exec_eq])
theorem exec_block {id : Nat} {b : RCode} : exec F (.block id b) st = match exec F b st with
    | some (.exit j, st') => if j = id then some (.normal, st') else some (.exit j, st')
    | r => r := by
  rw [exec_eq]; simp only [execC]; rw [← exec_eq]
theorem exec_loop {live : List Bool} {b : RCode} : exec F (.loop live b) st = match tidy live st with
    | some st1 => match exec F b st1 with
      | some (.normal, st2) => exec F (.loop live b) st2
      | some (e, st2) => some (e, { st2 with env := [] })
      | none => none
    | none => none := by
  rw [exec_eq]; simp only [execC]; split
  · rw [← exec_eq]
  · rfl
end

end Go.Ash
