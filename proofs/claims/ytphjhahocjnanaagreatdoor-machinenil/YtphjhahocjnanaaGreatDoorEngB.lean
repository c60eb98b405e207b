/- The evaluator of the model's code, part 2 of 3: what it computes, and that the model does the same; no condition beyond those that each theorem names. -/
import Derived.Test.YtphjhahocjnanaaGreatDoorEngA
import Derived.CheckFast
import Derived.Recover
import Derived.Orders
set_option linter.all false
/- Operations: slices with three indexes, clear. -/
set_option linter.unusedSimpArgs false
set_option linter.unusedVariables false
namespace Go.Eng
variable {P : Program} {G : Nat} {μ : Mp} {S S' : AH} {w : World}

/-- x[lo:hi:mx] -/
def eslice3 (x : AV) (lo : Option AV) (hi mx : AV) : Option AV :=
  match x with
  | .nils => match bnd mx 0, bnd hi 0, obnd lo 0 0 with
    | some _, some _, some _ => some .nils
    | _, _, _ => none
  | .esl => match bnd mx 0, bnd hi 0, obnd lo 0 0 with
    | some _, some _, some _ => some .esl
    | _, _, _ => none
  | .sl b o len cap esz ex => match bnd mx cap with
    | none => none
    | some m => match bnd hi m with
      | none => none
      | some h => match obnd lo 0 h with
        | none => none
        | some l => some (.sl b (bif Nat.beq l m then o else Nat.add o (Nat.mul l esz)) (Nat.sub h l) (Nat.sub m l) esz true)
  | _ => none

theorem run_sliceBounds3 {len cap c l h m : Nat} {lo : Option AV} {hi mx : AV} {la : Option Value} {ha ma : Value} (hc : cap ≤ c) (hl : OVR μ lo la) (hh : VR μ hi ha) (hm : VR μ mx ma) (e0 : bnd mx cap = some m) (e1 : bnd hi m = some h) (e2 : obnd lo 0 h = some l) :
    (Instr.sliceBounds true len c la (some ha) (some ma)).run P w = .ok (l, h, m) w := by
  unfold Instr.sliceBounds
  cases lo with
  | none => cases la with
    | some _ => simp [OVR] at hl
    | none =>
      have : l = 0 := by simpa [obnd] using e2.symm
      subst this
      simp only [Sem.run_bind, Sem.run_pure, Result.andThen_ok, run_sliceBound hm e0 hc, run_sliceBound hh e1 (Nat.le_refl _)]
  | some x => cases la with
    | none => simp [OVR] at hl
    | some a =>
      simp only [obnd] at e2
      simp only [Sem.run_bind, Sem.run_pure, Result.andThen_ok, run_sliceBound hm e0 hc, run_sliceBound hh e1 (Nat.le_refl _), run_sliceBound hl e2 (Nat.le_refl _)]

theorem eslice3_sound {t e : TypeId} (hd : P.underlying t = some (.slice e)) {i : TypeInfo} (hi : P.info? e = some i) {x v : AV} {lo : Option AV} {hi' mx : AV} {a : Value} {la : Option Value} {ha ma : Value} (hx : VR μ x a) (hl : OVR μ lo la) (hh : VR μ hi' ha) (hm : VR μ mx ma)
    (hes : ∀ b o len cap esz ex, x = .sl b o len cap esz ex → esz = i.size) (h : eslice3 x lo hi' mx = some v) :
    ∃ y, (Instr.sliceAt t a la (some ha) (some ma)).run P w = .ok y w ∧ VR μ v y := by
  unfold eslice3 at h
  split at h
  · simp only [VR] at hx
    subst hx
    split at h
    · rename_i m hh1 ll e0 e1 e2
      cases h
      have m0 : m = 0 := by have := (bnd_spec e0).2; omega
      have h0 : hh1 = 0 := by have := (bnd_spec e1).2; omega
      subst m0; subst h0
      have l0 : ll = 0 := by
        cases lo with
        | none => simpa [obnd] using e2.symm
        | some x => have := (bnd_spec e2).2; omega
      subst l0
      refine ⟨.slice none 0 0, ?_, by simp [VR]⟩
      simp only [Instr.sliceAt, Instr.slice, Sem.run_bind, run_underlying hd, Result.andThen_ok, run_sliceBounds3 (P := P) (w := w) (len := 0) (Nat.le_refl 0) hl hh hm e0 e1 e2, run_size hi, Sem.run_pure]
      rfl
    · cases h
  · simp only [VR] at hx
    obtain ⟨aa, c, rfl⟩ := hx
    split at h
    · rename_i m hh1 ll e0 e1 e2
      cases h
      have m0 : m = 0 := by have := (bnd_spec e0).2; omega
      have h0 : hh1 = 0 := by have := (bnd_spec e1).2; omega
      subst m0; subst h0
      have l0 : ll = 0 := by
        cases lo with
        | none => simpa [obnd] using e2.symm
        | some x => have := (bnd_spec e2).2; omega
      subst l0
      refine ⟨.slice (some aa) 0 0, ?_, ?_⟩
      · simp only [Instr.sliceAt, Instr.slice, Sem.run_bind, run_underlying hd, Result.andThen_ok, run_sliceBounds3 (P := P) (w := w) (len := 0) (c := c) (Nat.zero_le c) hl hh hm e0 e1 e2, run_size hi, Sem.run_pure]
        rfl
      · simp only [VR]; exact ⟨aa, 0, rfl⟩
    · cases h
  · rename_i b o len cap esz ex
    have hez := hes _ _ _ _ _ _ rfl
    subst hez
    simp only [VR] at hx
    obtain ⟨L, c, hL, rfl, h1, h2, h3, h4⟩ := hx
    split at h
    · cases h
    · rename_i m e0
      split at h
      · cases h
      · rename_i hh1 e1
        split at h
        · cases h
        · rename_i ll e2
          cases h
          have m1 := (bnd_spec e0).2
          have m2 := (bnd_spec e1).2
          have m3 : ll ≤ hh1 := by
            cases lo with
            | none => simp only [obnd, Option.some.injEq] at e2; omega
            | some x => exact (bnd_spec e2).2
          have hrun : (Instr.sliceAt t (.slice (some ⟨L.blk, L.off + o, none⟩) len c) la (some ha) (some ma)).run P w =
              .ok (.slice (if m = ll then some ⟨L.blk, L.off + o, none⟩ else some ⟨L.blk, L.off + o + ll * i.size, none⟩) (hh1 - ll) (m - ll)) w := by
            simp only [Instr.sliceAt, Instr.slice, Sem.run_bind, run_underlying hd, Result.andThen_ok, run_sliceBounds3 (P := P) (w := w) h1 hl hh hm e0 e1 e2, run_size hi, Sem.run_pure, Option.map_some, add_eq]
          refine ⟨_, hrun, ?_⟩
          simp only [VR]
          have hmul : m * i.size ≤ c * i.size := Nat.mul_le_mul_right _ (by omega)
          have hspl : (m - ll) * i.size + ll * i.size = m * i.size := by rw [← Nat.add_mul]; congr 1; omega
          have eS : Nat.sub hh1 ll = hh1 - ll := rfl
          have eS2 : Nat.sub m ll = m - ll := rfl
          have eN : Nat.add o (Nat.mul ll i.size) = o + ll * i.size := rfl
          rw [eS, eS2, eN]
          refine ⟨L, m - ll, hL, ?_, Nat.le_refl _, fun _ => rfl, ?_, by omega⟩
          · cases hb : Nat.beq ll m with
            | true =>
              have := Nat.eq_of_beq_eq_true hb
              rw [if_pos this.symm]; rfl
            | false =>
              have hne : m ≠ ll := fun e => by rw [e] at hb; simp at hb
              rw [if_neg hne]
              simp only [cond_false]
              rw [Nat.add_assoc]
          · cases hb : Nat.beq ll m with
            | true => simp only [cond_true]; omega
            | false => simp only [cond_false]; omega
  · cases h

noncomputable def eclear (z : List AV) (x : AV) (S : AH) : Option (AV × AH) :=
  match x with
  | .nils => some (.tup [], S)
  | .nilm => some (.tup [], S)
  | .esl => some (.tup [], S)
  | .sl b o len cap esz ex => match len with
    | 0 => some (.tup [], S)
    | n + 1 => bif Nat.beq esz z.length && z.all AV.one then (match S.h.get b with
      | some (.cells ct kn true pl) => bif Nat.ble (Nat.add o (Nat.mul (n + 1) esz)) kn then some (.tup [], S.set b (.cells (Tr.putL (rep z (n + 1)) o ct) kn true pl)) else none
      | _ => none) else none
  | _ => none

theorem eclear_sound {t ty e : TypeId} (ht : P.underlying t = some (.slice e)) {z : AV} (hz : zeroOf P e = some z) {x v : AV} {a : Value} (hR : Rel G μ S w) (ha : VR μ x a) (h : eclear z.cells x S = some (v, S')) :
    RunsV P G μ S w (Builtin.clear_ #[t] ty #[a]) v S' := by
  obtain ⟨ti, zv, hi, hzv, hzr⟩ := zeroOf_sound hz
  unfold eclear at h
  split at h
  · cases h
    simp only [VR] at ha; subst ha
    refine RunsV.pure hR (v := .tuple #[]) ?_ (by simp [VR, VRL])
    simp [Builtin.clear_, run_underlying ht]
  · cases h
    simp only [VR] at ha; subst ha
    refine RunsV.pure hR (v := .tuple #[]) ?_ (by simp [VR, VRL])
    simp [Builtin.clear_, run_underlying ht]
  · cases h
    simp only [VR] at ha; obtain ⟨a, c, rfl⟩ := ha
    refine RunsV.pure hR (v := .tuple #[]) ?_ (by simp [VR, VRL])
    simp [Builtin.clear_, run_underlying ht]
  · rename_i b o len cap esz ex
    simp only [VR] at ha
    obtain ⟨L, c, hL, rfl, q1, q2, q3, q4⟩ := ha
    split at h
    · cases h
      refine RunsV.pure hR (v := .tuple #[]) ?_ (by simp [VR, VRL])
      simp [Builtin.clear_, run_underlying ht]
    · rename_i n
      cases hc : (Nat.beq esz z.cells.length && z.cells.all AV.one) with
      | false => rw [hc] at h; cases h
      | true =>
        rw [hc, cond_true] at h
        simp only [Bool.and_eq_true] at hc
        have hez := Nat.eq_of_beq_eq_true hc.1
        have hone := hc.2
        split at h
        · rename_i ct kn pl hg
          cases hk : Nat.ble (Nat.add o (Nat.mul (n + 1) esz)) kn with
          | false => rw [hk] at h; cases h
          | true =>
            rw [hk, cond_true] at h
            cases h
            have hkn : o + (n + 1) * esz ≤ kn := Nat.le_of_ble_eq_true hk
            have hcs := (hzr μ).cells (AV.cells_one hone)
            have hrep := rep_sound hcs (n + 1)
            have hzsz : zv.cells.size = z.cells.length := by have := hcs.length; simp at this; omega
            have hmul : (n + 1) * esz ≤ c * esz := Nat.mul_le_mul_right _ (by omega)
            have hrl : (rep z.cells (n + 1)).length = (n + 1) * esz := by rw [rep_length, hez]
            obtain ⟨w', hw, hR', hE⟩ := Rel.store P (o := o) hR hg hL hrep (all_rep hone _) (by omega) ⟨Nat.le_refl _, by omega⟩
            refine ⟨μ, .tuple #[], w', ?_, by simp [VR, VRL], hR', hE⟩
            have hw' : (storeCells ⟨L.blk, L.off + o, none⟩ (Builtin.zeroCells zv.cells (n + 1)).toList).run P w = .ok () w' := by
              rw [← hw]
              simp only [Builtin.zeroCells, hzsz]
            unfold Builtin.clear_
            simp only [List.getElem?_toArray, List.getElem?_cons_zero, Sem.run_bind, run_underlying ht, Result.andThen_ok, run_zero hi hzv, hw', Sem.run_pure]
        · cases h
  · cases h

end Go.Eng

/- The evaluator's own form of an operation, what it does, and how it is made of the model's. -/
set_option linter.unusedSimpArgs false
set_option linter.unusedVariables false
namespace Go.Eng

inductive Opd where
  | t (i : Nat)
  | c (v : AV)

inductive IOp where
  | mv (x : Opd)
  | pick (c a b : Opd)
  | box (x : Opd)
  | build (z : List AV) (ps : List (Nat × Nat × Opd))
  | bslice (z : List AV) (len : Nat) (ps : List (Nat × Nat × Opd))
  | ld (sh : Option Nat) (x : Opd)
  | st (n : Nat) (x y : Opd)
  | nilck (x : Opd)
  | num (op : BinOp) (x y : Opd)
  | eqv (neg ag : Bool) (ks : List CK) (cst : Bool) (x y : Opd)
  | un (op : UnOp) (x : Opd)
  | cvi (k : IntKind) (x : Opd)
  | cvs (x : Opd)
  | s2b (x : Opd)
  | b2s (x : Opd)
  | mkif (t : TypeId) (x : Opd)
  | mkfn (f : Nat) (first cap : List Opd)
  | mkmap
  | mksl (z : List AV) (bytes : Nat) (l c : Opd)
  | slS (x : Opd) (lo hi : Option Opd)
  | slL (esz : Nat) (x : Opd) (lo hi : Option Opd)
  | slA (n esz : Nat) (x : Opd) (lo hi : Option Opd)
  | sl3 (esz : Nat) (x : Opd) (lo : Option Opd) (hi mx : Opd)
  | clr (z : List AV) (x : Opd)
  | fa (off : Nat) (x : Opd)
  | fld (sh : Option Nat) (off : Nat) (x : Opd)
  | ias (esz : Nat) (x i : Opd)
  | iaa (n esz : Nat) (x i : Opd)
  | ixa (n esz : Nat) (sh : Option Nat) (x i : Opd)
  | ixs (x i : Opd)
  | look (kd : KK) (z : AV) (ok : Bool) (x i : Opd)
  | mup (kd : KK) (x i y : Opd)
  | ins (kd : KK) (x i y : Opd)
  | ext (x : Opd) (k : Nat)
  | len (kd : TypeDesc) (x : Opd)
  | cap (x : Opd)
  | app (esz bytes : Nat) (s x : Opd)
  | appz (z : List AV) (bytes : Nat) (s x : Opd)
  | del (kd : KK) (x i : Opd)
  | cpy (esz : Nat) (d x : Opd)
  | mm (mx : Bool) (x : Opd) (ys : List Opd)
  | call (f : Nat) (args : List Opd)
  | calld (x : Opd) (args : List Opd)
  | dfr (x : Opd) (args : List Opd)
  | recov
  | pan (x : Opd)
  | tass (t : TypeId) (z : AV) (ok : Bool) (x : Opd)
  | bad

/-- what an operation comes to -/
inductive ANx where
  | val (v : AV)
  | enter (f : Nat) (args : List AV)
  | dfr (f : Nat) (args : List AV)
  | recov
  | pan (v : AV)

abbrev Env := Tr AV

noncomputable def opd (E : Env) (x : Opd) : AV :=
  match x with
  | .t i => match E.get i with
    | some v => v
    | none => .u
  | .c v => v

noncomputable def opds (E : Env) (l : List Opd) : List AV :=
  List.rec (motive := fun _ => List AV) [] (fun x _ ih => opd E x :: ih) l

noncomputable def parts (E : Env) (l : List (Nat × Nat × Opd)) : List (Nat × Nat × AV) :=
  List.rec (motive := fun _ => List (Nat × Nat × AV)) [] (fun p _ ih => (p.1, p.2.1, opd E p.2.2) :: ih) l

noncomputable def oopd (E : Env) (x : Option Opd) : Option AV :=
  match x with
  | none => none
  | some x => some (opd E x)

noncomputable def vS (x : Option AV) (S : AH) : Option (ANx × AH) :=
  match x with
  | some v => some (.val v, S)
  | none => none

noncomputable def vR (x : Option (AV × AH)) : Option (ANx × AH) :=
  match x with
  | some (v, S) => some (.val v, S)
  | none => none

noncomputable def enum (op : BinOp) (x y : AV) : Option AV :=
  match x, y with
  | .int k a, .int k' b => match op with
    | .shl | .shr => match ishift op k a b with
      | some r => some (.int k r)
      | none => none
    | .eql | .neq | .lss | .leq | .gtr | .geq => bif k == k' then (match icmp op a b with
      | some r => some (.bool r)
      | none => none) else none
    | _ => bif k == k' then (match iop op k a b with
      | some r => some (.int k r)
      | none => none) else none
  | .str a, .str b => sop op a b
  | _, _ => none

def bothNil (x y : AV) : Bool :=
  match x, y with
  | .nili, .nili => true
  | _, _ => false

noncomputable def eeqv (neg ag : Bool) (ks : List CK) (cst : Bool) (x y : AV) (S : AH) : Option AV :=
  match aeq S ag ks x y with
  | some r => bif (cst || !(bothNil x y)) then some (.bool (bif neg then !r else r)) else none
  | none => none

noncomputable def ecap (x : AV) : Option AV :=
  match x with
  | .nils => some (.int .i64 (.ofNat 0))
  | .sl _ _ _ cap _ true => some (.int .i64 (.ofNat cap))
  | _ => none

noncomputable def escheck (esz : Nat) (x : AV) : Bool :=
  match x with
  | .sl _ _ _ _ e _ => Nat.beq e esz
  | _ => true

noncomputable def enilck (x : AV) : Option AV :=
  match x with
  | .ptr _ _ | .sl .. | .mp _ | .fn (.func _) _ _ | .ifc .. => some x
  | _ => none

def strFit (esz : Nat) (x : AV) : Bool :=
  match x with
  | .str _ => Nat.beq esz 1
  | _ => true

noncomputable def etass (t : TypeId) (z : AV) (ok : Bool) (x : AV) : Option AV :=
  match x with
  | .ifc u v => bif Nat.beq u t then some (bif ok then .tup [v, .bool true] else v) else (bif ok then some (.tup [z, .bool false]) else none)
  | .nili => bif ok then some (.tup [z, .bool false]) else none
  | _ => none

noncomputable def ieval (kn : Nat → Bool) (o : IOp) : Env → AH → Option (ANx × AH) :=
  match o with
  | .mv x => fun E S => some (.val (opd E x), S)
  | .pick c a b => fun E S => match opd E c with
    | .bool true => some (.val (opd E a), S)
    | .bool false => some (.val (opd E b), S)
    | _ => none
  | .box x => fun E S => vR (ebox (opd E x) S)
  | .build z ps => fun E S => vR (ebuild z (parts E ps) S)
  | .bslice z len ps => fun E S => vR (ebslice z len (parts E ps) S)
  | .ld sh x => fun E S => vR (eload sh (opd E x) S)
  | .st n x y => fun E S => vR (estore n (opd E x) (opd E y) S)
  | .nilck x => fun E S => vS (enilck (opd E x)) S
  | .num op x y => fun E S => vS (enum op (opd E x) (opd E y)) S
  | .eqv neg ag ks cst x y => fun E S => vS (eeqv neg ag ks cst (opd E x) (opd E y) S) S
  | .un op x => fun E S => vS (eun op (opd E x)) S
  | .cvi k x => fun E S => match opd E x with
    | .int _ n => some (.val (.int k (wr k n)), S)
    | _ => none
  | .cvs x => fun E S => match opd E x with
    | .str l => some (.val (.str l), S)
    | _ => none
  | .s2b x => fun E S => vR (es2b (opd E x) S)
  | .b2s x => fun E S => vS (eb2s (opd E x) S) S
  | .mkif t x => fun E S => some (.val (.ifc t (opd E x)), S)
  | .mkfn f first cap => fun E S => some (.val (.fn (.func f) (opds E first) (opds E cap)), S)
  | .mkmap => fun E S => match emkmap S with
    | (v, S') => some (.val v, S')
  | .mksl z bytes l c => fun E S => vR (emkslice z bytes (opd E l) (opd E c) S)
  | .slS x lo hi => fun E S => vS (esliceS (opd E x) (oopd E lo) (oopd E hi)) S
  | .slL esz x lo hi => fun E S => bif escheck esz (opd E x) then vS (eslice (opd E x) (oopd E lo) (oopd E hi)) S else none
  | .slA n esz x lo hi => fun E S => vS (esliceA n esz (opd E x) (oopd E lo) (oopd E hi) S) S
  | .sl3 esz x lo hi mx => fun E S => bif escheck esz (opd E x) then vS (eslice3 (opd E x) (oopd E lo) (opd E hi) (opd E mx)) S else none
  | .clr z x => fun E S => vR (eclear z (opd E x) S)
  | .fa off x => fun E S => vS (efa off (opd E x)) S
  | .fld sh off x => fun E S => vS (efld sh off (opd E x)) S
  | .ias esz x i => fun E S => vS (eias esz (opd E x) (opd E i)) S
  | .iaa n esz x i => fun E S => vS (eiaa n esz (opd E x) (opd E i)) S
  | .ixa n esz sh x i => fun E S => vS (eixa n esz sh (opd E x) (opd E i)) S
  | .ixs x i => fun E S => vS (eixs (opd E x) (opd E i)) S
  | .look kd z ok x i => fun E S => vS (elook kd z ok (opd E x) (opd E i) S) S
  | .mup kd x i y => fun E S => match emapup kd (opd E x) (opd E i) (opd E y) S with
    | some S' => some (.val .u, S')
    | none => none
  | .ins kd x i y => fun E S => match emapup kd (opd E x) (opd E i) (opd E y) S with
    | some S' => some (.val .u, S')
    | none => none
  | .ext x k => fun E S => vS (eext (opd E x) k) S
  | .len kd x => fun E S => bif lenFit kd (opd E x) then vS (elen (opd E x) S) S else none
  | .cap x => fun E S => vS (ecap (opd E x)) S
  | .app esz bytes s x => fun E S => bif strFit esz (opd E x) then vR (eapp esz bytes (opd E s) (opd E x) S) else none
  | .appz z bytes s x => fun E S => vR (eappz z bytes (opd E s) (opd E x) S)
  | .del kd x i => fun E S => match edel kd (opd E x) (opd E i) S with
    | some S' => some (.val (.tup []), S')
    | none => none
  | .cpy esz d x => fun E S => bif strFit esz (opd E x) then vR (ecopy esz (opd E d) (opd E x) S) else none
  | .mm mx x ys => fun E S => vS (emm mx (opd E x) (opds E ys)) S
  | .call f args => fun E S => bif kn f then some (.enter f (opds E args), S) else none
  | .calld x args => fun E S => match opd E x with
    | .fn (.func f) first cap => bif kn f then some (.enter f (first ++ opds E args ++ cap), S) else none
    | _ => none
  | .dfr x args => fun E S => match opd E x with
    | .fn (.func f) first cap => bif kn f then some (.dfr f (first ++ opds E args ++ cap), S) else none
    | _ => none
  | .recov => fun E S => some (.recov, S)
  | .pan x => fun E S => match opd E x with
    | .ifc t v => some (.pan (.ifc t v), S)
    | _ => none
  | .tass t z ok x => fun E S => vS (etass t z ok (opd E x)) S
  | .bad => fun E S => none

/-! how it is made -/

def copd (x : Operand) : Option Opd :=
  match x with
  | .tmp t => some (.t t)
  | .const v => match cval v with
    | some x => some (.c x)
    | none => none
  | .global g => some (.c (.ptr g 0))
  | .func f => some (.c (.fn (.func f) [] []))

def copds : List Operand → Option (List Opd)
  | [] => some []
  | x :: l => match copd x, copds l with
    | some y, some r => some (y :: r)
    | _, _ => none

def cparts (pl : Nat → Option (Nat × Nat)) : List (Nat × Operand) → Option (List (Nat × Nat × Opd))
  | [] => some []
  | p :: l => match pl p.1, copd p.2, cparts pl l with
    | some (o, s), some x, some r => some ((o, s, x) :: r)
    | _, _, _ => none

def coopd (x : Option Operand) : Option (Option Opd) :=
  match x with
  | none => some none
  | some x => match copd x with
    | some y => some (some y)
    | none => none

def isConst (x : Operand) : Bool := match x with | .const _ => true | _ => false

/-- the element type of a slice, if its zero value's cells are as many as it has -/
def elemOf (P : Program) (e : TypeId) : Option (List AV × TypeInfo) :=
  match P.info? e, zeroOf P e with
  | some i, some z => if i.size = z.cells.length then some (z.cells, i) else none
  | _, _ => none

def ccall (P : Program) (c : Call) : Option IOp :=
  match c.callee with
  | .builtin b =>
    match b, c.argTypes.toList, c.args.toList with
    | .len, [t], [x] => match P.underlying t, copd x with
      | some d, some y => match d with
        | .string | .slice _ | .map _ _ => some (.len d y)
        | .array n _ => some (.mv (.c (.int .i64 (.ofNat n))))
        | _ => none
      | _, _ => none
    | .cap, [t], [x] => match P.underlying t, copd x with
      | some (.slice _), some y => some (.cap y)
      | _, _ => none
    | .append, [t, xt], [s, x] => match P.underlying t, P.underlying xt, copd s, copd x with
      | some (.slice e), some dx, some s, some x => if notInt dx then (match elemOf P e with
        | some (_, i) => some (.app i.size i.bytes s x)
        | none => none) else (match elemOf P e with
        | some (z, i) => some (.appz z i.bytes s x)
        | none => none)
      | _, _, _, _ => none
    | .copy, [t, _], [d, x] => match P.underlying t, copd d, copd x with
      | some (.slice e), some d, some x => match P.info? e with
        | some i => some (.cpy i.size d x)
        | none => none
      | _, _, _ => none
    | .max, _, x :: ys => match copd x, copds ys with
      | some x, some ys => some (.mm true x ys)
      | _, _ => none
    | .min, _, x :: ys => match copd x, copds ys with
      | some x, some ys => some (.mm false x ys)
      | _, _ => none
    | .clear, [t], [x] => match P.underlying t, copd x with
      | some (.slice e), some y => match zeroOf P e with
        | some z => some (.clr z.cells y)
        | none => none
      | _, _ => none
    | .delete, [t, _], [m, k] => match P.underlying t, copd m, copd k with
      | some (.map kt _), some m, some k => match KK.of P kt with
        | some kd => some (.del kd m k)
        | none => none
      | _, _, _ => none
    | .recover, _, _ => some .recov
    | _, _, _ => none
  | .value f => match copds c.args.toList with
    | some args => match f with
      | .func g => some (.call g args)
      | f => match copd f with
        | some x => some (.calld x args)
        | none => none
    | none => none
  | .invoke _ _ => none

def cbin (P : Program) (op : BinOp) (t : TypeId) (x y : Operand) : Option IOp :=
  match copd x, copd y with
  | some a, some b =>
    match op with
    | .eql | .neq => match P.underlying t with
      | some (.int _) | some .string => some (.num op a b)
      | some d => match flat P 100 t with
        | some ks => if aggOf d && P.eqGuardType P.depth t then none else some (.eqv (op == .neq) (aggOf d) ks (isConst x || isConst y) a b)
        | none => none
      | none => none
    | _ => some (.num op a b)
  | _, _ => none

def cop (P : Program) (o : Oper) : Option IOp :=
  match o.op with
  | .move x | .assign x => match copd x with
    | some y => some (.mv y)
    | none => none
  | .pick c a b => match copd c, copd a, copd b with
    | some c, some a, some b => some (.pick c a b)
    | _, _, _ => none
  | .alloc e => match zeroOf P e with
    | some z => some (.box (.c z))
    | none => none
  | .box _ x => match copd x with
    | some y => some (.box y)
    | none => none
  | .build t ps => match P.underlying t, zeroOf P t with
    | some d, some z => if fieldsKnown P d then (match cparts (placeOf P d) ps.toList with
      | some qs => some (.build z.cells qs)
      | none => none) else none
    | _, _ => none
  | .buildSlice t len ps => match P.underlying t with
    | some (.slice e) => match elemOf P e with
      | some (z, i) => if len * z.length ≤ 16777216 then (match cparts (fun i => some (i * z.length, z.length)) ps.toList with
        | some qs => some (.bslice z len qs)
        | none => none) else none
      | none => none
    | _ => none
  | .load t x => match shapeOf P t, copd x with
    | some sh, some y => some (.ld sh y)
    | _, _ => none
  | .store t x v => match P.info? t, copd x, copd v with
    | some i, some a, some b => some (.st i.size a b)
    | _, _, _ => none
  | .nilCheck x => match copd x with
    | some y => some (.nilck y)
    | none => none
  | .binOp op t x y _ => cbin P op t x y
  | .unOp op _ x => match copd x with
    | some y => some (.un op y)
    | none => none
  | .convert src dst x => match P.underlying src, P.underlying dst, copd x with
    | some ds, some dd, some y => match dd with
      | .int k => some (.cvi k y)
      | .string => match ds with
        | .string => some (.cvs y)
        | .slice e => match P.underlying e with
          | some (.int .u8) => some (.b2s y)
          | _ => none
        | _ => none
      | .slice e => match ds with
        | .string => match P.underlying e with
          | some (.int .u8) => some (.s2b y)
          | _ => none
        | _ => none
      | _ => none
    | _, _, _ => none
  | .makeInterface t x => match P.underlying t, copd x with
    | some d, some y => match d with
      | .interface _ => none
      | _ => some (.mkif t y)
    | _, _ => none
  | .makeFunc fn first cap => match fn, copds first.toList, copds cap.toList with
    | .func f, some a, some b => some (.mkfn f a b)
    | _, _, _ => none
  | .makeMap t r => match P.underlying t, r with
    | some (.map _ _), none => some .mkmap
    | _, _ => none
  | .makeSlice t l c => match P.underlying t, copd l, copd c with
    | some (.slice e), some a, some b => match elemOf P e with
      | some (z, i) => some (.mksl z i.bytes a b)
      | none => none
    | _, _, _ => none
  | .slice t x lo hi mx => match P.underlying t, copd x, coopd lo, coopd hi, mx with
    | some d, some y, some l, some h, none => match d with
      | .string => some (.slS y l h)
      | .slice e => match P.info? e with
        | some i => some (.slL i.size y l h)
        | none => none
      | .array n e => match P.info? e with
        | some i => some (.slA n i.size y l h)
        | none => none
      | _ => none
    | some (.slice e), some y, some l, some (some h), some mx => match P.info? e, copd mx with
      | some i, some m => some (.sl3 i.size y l h m)
      | _, _ => none
    | _, _, _, _, _ => none
  | .fieldAddr t x k => match P.underlying t, copd x with
    | some (.struct fs), some y => match fs[k]? with
      | some f => match P.info? f.type with
        | some i => if i.size = 0 then none else some (.fa f.offset y)
        | none => none
      | none => none
    | _, _ => none
  | .field t x k => match P.underlying t, copd x with
    | some (.struct fs), some y => match fs[k]? with
      | some f => match shapeOf P f.type with
        | some sh => some (.fld sh f.offset y)
        | none => none
      | none => none
    | _, _ => none
  | .indexAddr t x ix => match P.underlying t, copd x, copd ix with
    | some d, some a, some b => match d with
      | .slice e => match P.info? e with
        | some i => some (.ias i.size a b)
        | none => none
      | .array n e => match P.info? e with
        | some i => some (.iaa n i.size a b)
        | none => none
      | _ => none
    | _, _, _ => none
  | .index t x ix => match P.underlying t, copd x, copd ix with
    | some d, some a, some b => match d with
      | .string => some (.ixs a b)
      | .array n e => match P.info? e, shapeOf P e with
        | some i, some sh => some (.ixa n i.size sh a b)
        | _, _ => none
      | _ => none
    | _, _, _ => none
  | .lookup t x ix ok => match P.underlying t, copd x, copd ix with
    | some (.map k e), some a, some b => match KK.of P k, zeroOf P e with
      | some kd, some z => some (.look kd z ok a b)
      | _, _ => none
    | _, _, _ => none
  | .mapUpdate t m k x => match P.underlying t, copd m, copd k, copd x with
    | some (.map kt _), some a, some b, some c => match KK.of P kt with
      | some kd => some (.mup kd a b c)
      | none => none
    | _, _, _, _ => none
  | .insert t m k x => match P.underlying t, copd m, copd k, copd x with
    | some (.map kt _), some a, some b, some c => match KK.of P kt with
      | some kd => some (.ins kd a b c)
      | none => none
    | _, _, _, _ => none
  | .extract x k => match copd x with
    | some y => some (.ext y k)
    | none => none
  | .call c => ccall P c
  | .defer c => match c.callee, copds c.args.toList with
    | .value f, some args => match copd f with
      | some x => some (.dfr x args)
      | none => none
    | _, _ => none
  | .panic x => match copd x with
    | some y => some (.pan y)
    | none => none
  | .typeAssert x xt t ok => match P.underlying t, zeroOf P t, copd x with
    | some d, some z, some y => match d with
      | .interface _ => none
      | _ => some (.tass t z ok y)
    | _, _, _ => none
  | _ => none

def glOk (G : Nat) (x : Operand) : Bool := match x with | .global g => Nat.blt g G | _ => true
def glAll (G : Nat) (o : Oper) : Bool := o.op.operands.toList.all (glOk G)

end Go.Eng

/- The evaluator: code, calls, deferred calls. -/
set_option linter.unusedSimpArgs false
set_option linter.unusedVariables false
namespace Go.Eng

/-- an operation with its slot; run only if the slot of another one holds a given bool -/
structure OpI where
  dst : Option Nat
  guard : Option (Nat × Bool)
  op : IOp

/-- operation number 'i' of a statement whose order is open: one that reads no memory (it may make a block, under the name 'i' of those kept for the statement); one that reads, perhaps already behind 'lo' effects; one that has an effect -/
inductive DI where
  | q (i : Nat) (o : OpI)
  | r (i lo : Nat) (o : OpI)
  | e (i : Nat) (o : OpI)
  /-- a map is made; 'l': the inserts of its literal -/
  | m (i : Nat) (o : OpI) (l : List (Nat × OpI))
  /-- an insert of a literal, into the map of operation 'j' -/
  | n (i : Nat) (o : OpI) (j : Nat)
  /-- a read of the literal of operation 'j' -/
  | k (i : Nat) (o : OpI) (j : Nat)

def DI.o (d : DI) : OpI := match d with | .q _ o => o | .r _ _ o => o | .e _ o => o | .m _ o _ => o | .n _ o _ => o | .k _ o _ => o
def DI.i (d : DI) : Nat := match d with | .q i _ => i | .r i _ _ => i | .e i _ => i | .m i _ _ => i | .n i _ _ => i | .k i _ _ => i

/-- an insert: the key's kind, the map's slot, key and value -/
def insK (o : OpI) : Option (KK × Nat × Opd × Opd) := match o.guard with
  | none => match o.op with
    | .ins kd (.t t) k v => some (kd, t, k, v)
    | _ => none
  | some _ => none

/-- the entries of a literal: no two keys alike -/
noncomputable def mins (E : Env) (l : List (Nat × OpI)) : List AEnt → Option (List AEnt) :=
  List.rec (motive := fun _ => List AEnt → Option (List AEnt)) (fun es => some es) (fun p _ ih es => match insK p.2 with
    | none => none
    | some (kd, _, k, v) => bif keyDesc kd (opd E k) then (match mfind (opd E k) es 0 with
      | some none => ih (es ++ [⟨opd E k, opd E v, 0⟩])
      | _ => none) else none) l

inductive IC where
  | skip
  | ops (l : List OpI)
  /-- 'n' operations in an order that Go leaves open: carried out in this one -/
  | draw (n : Nat) (l : List DI)
  | seq (a b : IC)
  | cond (x : Opd) (a b : IC)
  | block (id : Nat) (b : IC)
  | loop (b : IC)
  | exit (id : Nat)
  | ret
  | bad

inductive RV where
  | t (i : Nat)
  | cell (i : Nat) (sh : Option Nat)

structure FnIR where
  body : IC
  res : List RV

structure AD where
  f : Nat
  args : List AV

inductive AX where
  | normal
  | exit (id : Nat)
  | ret
  | pan (v : AV)

inductive CR where
  | ret (v : AV)
  | pan (v : AV)

noncomputable def putO (E : Env) (d : Option Nat) (v : AV) : Env :=
  match d with
  | none => E
  | some i => E.put (some v) i

/-- is an operation to be run? -/
noncomputable def want (g : Option (Nat × Bool)) (E : Env) : Option Bool :=
  match g with
  | none => some true
  | some (t, b) => match E.get t with
    | some (.bool c) => some (match b, c with | true, true => true | false, false => true | _, _ => false)
    | some (.tup []) => some false
    | _ => none

/-- one operation. 'call': what a call of a function comes to -/
noncomputable def evOp (kn : Nat → Bool) (call : Nat → List AV → AH → Option (CR × AH)) (o : OpI) (E : Env) (D : List AD) (S : AH) : Option (Option AV × Env × List AD × AH) :=
  match want o.guard E with
  | none => none
  | some false => some (none, putO E o.dst (.tup []), D, S)
  | some true => match ieval kn o.op E S with
    | none => none
    | some (x, S1) => match x with
      | .val v => some (none, putO E o.dst v, D, S1)
      | .enter f args => match call f args S1 with
        | none => none
        | some (r, S2) => match r with
          | .ret v => some (none, putO E o.dst v, D, S2)
          | .pan v => some (some v, E, D, S2)
      | .dfr f args => some (none, putO E o.dst (.tup []), ⟨f, args⟩ :: D, S1)
      | .recov => none
      | .pan v => some (some v, E, D, S1)

noncomputable def evOps (kn : Nat → Bool) (call : Nat → List AV → AH → Option (CR × AH)) (l : List OpI) : Env → List AD → AH → Option (AX × Env × List AD × AH) :=
  List.rec (motive := fun _ => Env → List AD → AH → Option (AX × Env × List AD × AH)) (fun E D S => some (.normal, E, D, S))
    (fun o _ ih E D S => match evOp kn call o E D S with
      | none => none
      | some (p, E1, D1, S1) => match p with
        | none => ih E1 D1 S1
        | some v => some (.pan v, E1, D1, S1)) l

/-- are two values of one cell spelled alike? -/
def AV.same1 : AV → AV → Bool
  | .bool a, .bool b => match a, b with | true, true => true | false, false => true | _, _ => false
  | .int j a, .int k b => j == k && ieq a b
  | .str a, .str b => seq a b
  | .nilp, .nilp => true
  | .ptr a o, .ptr b q => Nat.beq a b && Nat.beq o q
  | .nils, .nils => true
  | .sl b o l c e true, .sl b' o' l' c' e' true => Nat.beq b b' && Nat.beq o o' && Nat.beq l l' && Nat.beq c c' && Nat.beq e e'
  | .sl b o l c e false, .sl b' o' l' c' e' false => Nat.beq b b' && Nat.beq o o' && Nat.beq l l' && Nat.beq c c' && Nat.beq e e'
  | .esl, .esl => true
  | .nilm, .nilm => true
  | .mp a, .mp b => Nat.beq a b
  | .nilfn, .nilfn => true
  | .nili, .nili => true
  | _, _ => false

noncomputable def sameL (l : List AV) : List AV → Bool :=
  List.rec (motive := fun _ => List AV → Bool) (fun m => match m with | [] => true | _ :: _ => false) (fun x _ ih m => match m with | [] => false | y :: m => bif AV.same1 x y then ih m else false) l

noncomputable def AV.same (x y : AV) : Bool :=
  match x, y with
  | .agg l, .agg m => sameL l m
  | .ifc t (.ptr b o), .ifc t' (.ptr b' o') => bif Nat.beq t t' then (bif Nat.beq b b' then Nat.beq o o' else false) else false
  | x, y => AV.same1 x y

/-- does a read give the same in each of these memories? -/
noncomputable def sameIn (kn : Nat → Bool) (o : IOp) (E : Env) (v : AV) (h : List AH) : Bool :=
  List.rec (motive := fun _ => Bool) true (fun S _ ih => match ieval kn o E S with
    | some (.val u, _) => bif AV.same v u then ih else false
    | _ => false) h

/-- the heap with one more block, if there is one of this name -/
noncomputable def AH.attach (S : AH) (r : Nat) (x : Option ABlk) : AH := match x with
  | none => S
  | some k => ⟨S.h.put (some k) r, S.n⟩

/-- how far a statement is, whose order is open. hs: the memories behind each effect so far, the newest first; k: how many effects -/
structure DS where
  E : Env
  D : List AD
  S : AH
  hs : List AH
  k : Nat

/-- n0: the first name kept for the statement's operations -/
noncomputable def dstep (kn : Nat → Bool) (call : Nat → List AV → AH → Option (CR × AH)) (n0 : Nat) (i : DI) (d : DS) : Option DS :=
  match i with
  | .q i o => match want o.guard d.E with
    | none => none
    | some false => some { d with E := putO d.E o.dst (.tup []) }
    | some true => match ieval kn o.op d.E ⟨.e, Nat.add n0 i⟩ with
      | some (x, S1) => match x with
        | .val v => bif Nat.ble S1.n (Nat.succ (Nat.add n0 i)) then some { d with E := putO d.E o.dst v, S := d.S.attach (Nat.add n0 i) (S1.h.get (Nat.add n0 i)) } else none
        | _ => none
      | none => none
  | .r _ lo o => match want o.guard d.E with
    | none => none
    | some false => some { d with E := putO d.E o.dst (.tup []) }
    | some true => match d.hs with
      | [] => none
      | S0 :: hs => match ieval kn o.op d.E S0 with
        | some (x, _) => match x with
          | .val v => bif sameIn kn o.op d.E v (hs.take (Nat.sub d.k lo)) then some { d with E := putO d.E o.dst v } else none
          | _ => none
        | none => none
  | .m i o l => match o.guard with
    | some _ => none
    | none => match o.op with
      | .mkmap => match mins d.E l [] with
        | none => none
        | some es => some { d with E := putO d.E o.dst (.mp (Nat.add n0 i)), S := d.S.attach (Nat.add n0 i) (some (.map es 0)) }
      | _ => none
  | .n _ o _ => some { d with E := putO d.E o.dst .u }
  | .k _ o j => match want o.guard d.E with
    | none => none
    | some false => some { d with E := putO d.E o.dst (.tup []) }
    | some true => match d.S.h.get (Nat.add n0 j) with
      | none => none
      | some blk => match ieval kn o.op d.E ⟨Tr.e.put (some blk) (Nat.add n0 j), Nat.succ (Nat.add n0 j)⟩ with
        | some (x, _) => match x with
          | .val v => some { d with E := putO d.E o.dst v }
          | _ => none
        | none => none
  | .e _ o => match evOp kn call o d.E d.D d.S with
    | none => none
    | some (p, E1, D1, S1) => match p with
      | none => some ⟨E1, D1, S1, S1 :: d.hs, Nat.succ d.k⟩
      | some _ => none

noncomputable def evDraw (kn : Nat → Bool) (call : Nat → List AV → AH → Option (CR × AH)) (n0 : Nat) (l : List DI) : DS → Option DS :=
  List.rec (motive := fun _ => DS → Option DS) (fun d => some d)
    (fun i _ ih d => match dstep kn call n0 i d with
      | none => none
      | some d1 => ih d1) l

/-- what a function hands back -/
noncomputable def evRes (l : List RV) (E : Env) (S : AH) : Option (List AV) :=
  List.rec (motive := fun _ => Option (List AV)) (some []) (fun r _ ih => match r with
    | .t i => match E.get i, ih with
      | some v, some l => some (v :: l)
      | _, _ => none
    | .cell i sh => match E.get i with
      | some p => match eload sh p S, ih with
        | some (v, _), some l => some (v :: l)
        | _, _ => none
      | none => none) l

noncomputable def one (l : List AV) : AV :=
  match l with
  | [x] => x
  | l => .tup l

/-- the state in which deferred calls are made: returning; panicking (and whether it was recovered) -/
inductive DM where
  | ret
  | pan (v : AV) (rec : Bool)

/-- the body of a deferred call: statements that may recover -/
noncomputable def evS (kn : Nat → Bool) (call : Nat → List AV → AH → Option (CR × AH)) (l : List OpI) : Env → DM → AH → Option (Env × DM × AH) :=
  List.rec (motive := fun _ => Env → DM → AH → Option (Env × DM × AH)) (fun E m S => some (E, m, S))
    (fun o _ ih E m S => match o.op with
      | .recov => match want o.guard E with
        | some true => match m with
          | .ret => ih (putO E o.dst .nili) m S
          | .pan v r => match r with
            | true => ih (putO E o.dst .nili) m S
            | false => ih (putO E o.dst v) (.pan v true) S
        | _ => none
      | _ => match evOp kn call o E [] S with
        | some (none, E1, D1, S1) => match D1 with
          | [] => ih E1 m S1
          | _ => none
        | _ => none) l

noncomputable def evD (kn : Nat → Bool) (call : Nat → List AV → AH → Option (CR × AH)) : Nat → IC → Env → DM → AH → Option (Bool × Env × DM × AH) :=
  Nat.rec (motive := fun _ => IC → Env → DM → AH → Option (Bool × Env × DM × AH)) (fun _ _ _ _ => none)
    (fun _ ih c E m S => match c with
      | .skip => some (false, E, m, S)
      | .ret => some (true, E, m, S)
      | .ops l => match evS kn call l E m S with
        | some (E1, m1, S1) => some (false, E1, m1, S1)
        | none => none
      | .seq a b => match ih a E m S with
        | some (false, E1, m1, S1) => ih b E1 m1 S1
        | r => r
      | .cond x a b => match opd E x with
        | .bool true => ih a E m S
        | .bool false => ih b E m S
        | _ => none
      | _ => none)

/-- the deferred calls, one behind the other: how the function ends -/
noncomputable def evDefers (kn : Nat → Bool) (fns : Nat → Option FnIR) (call : Nat → List AV → AH → Option (CR × AH)) (n : Nat) (D : List AD) : DM → AH → Option (DM × AH) :=
  List.rec (motive := fun _ => DM → AH → Option (DM × AH)) (fun m S => some (m, S))
    (fun d _ ih m S => match fns d.f with
      | none => none
      | some fn => match evD kn call n fn.body (Tr.putL d.args 0 .e) m S with
        | none => none
        | some (_, E1, m1, S1) => match evRes fn.res E1 S1 with
          | none => none
          | some _ => match m1 with
            | .ret => ih .ret S1
            | .pan v r => match r with
              | true => ih .ret S1
              | false => ih (.pan v false) S1) D

noncomputable def finishFn (kn : Nat → Bool) (fns : Nat → Option FnIR) (call : Nat → List AV → AH → Option (CR × AH)) (n : Nat) (res : List RV) (x : AX) (E : Env) (D : List AD) (S : AH) : Option (CR × AH) :=
  match (match x with
    | .normal => some DM.ret
    | .ret => some .ret
    | .pan v => some (.pan v false)
    | .exit _ => none) with
  | none => none
  | some m => match evDefers kn fns call n D m S with
    | none => none
    | some (m1, S1) => match m1 with
      | .ret => match evRes res E S1 with
        | some l => some (.ret (one l), S1)
        | none => none
      | .pan v _ => some (.pan v, S1)

/-! code, as what it does to the slots, the deferred calls and the memory -/

abbrev K := Env → List AD → AH → Option (AX × Env × List AD × AH)
abbrev CallF := Nat → List AV → AH → Option (CR × AH)

noncomputable def kSkip : K := fun E D S => some (.normal, E, D, S)
noncomputable def kNone : K := fun _ _ _ => none
noncomputable def kDraw (kn : Nat → Bool) (call : CallF) (n : Nat) (l : List DI) : K := fun E D S =>
  match evDraw kn call S.n l ⟨E, D, ⟨S.h, Nat.add S.n n⟩, [⟨S.h, Nat.add S.n n⟩], 0⟩ with
  | some d => some (.normal, d.E, d.D, d.S)
  | none => none
noncomputable def kSeq (a b : K) : K := fun E D S => match a E D S with
  | none => none
  | some (x, E1, D1, S1) => match x with
    | .normal => b E1 D1 S1
    | x => some (x, E1, D1, S1)
noncomputable def kCond (x : Opd) (a b : K) : K := fun E D S => match opd E x with
  | .bool c => match c with
    | true => a E D S
    | false => b E D S
  | _ => none
noncomputable def kBlock (id : Nat) (b : K) : K := fun E D S => match b E D S with
  | none => none
  | some (x, r) => match x with
    | .exit j => bif Nat.beq j id then some (.normal, r) else some (.exit j, r)
    | x => some (x, r)
/-- at most 'lf' rounds -/
noncomputable def kLoop (b : K) (lf : Nat) : K := Nat.rec (motive := fun _ => K) kNone (fun _ ih => kSeq b ih) lf
noncomputable def kExit (id : Nat) : K := fun E D S => some (.exit id, E, D, S)
noncomputable def kRet : K := fun E D S => some (.ret, E, D, S)

noncomputable def evC (kn : Nat → Bool) (call : CallF) (lf : Nat) (c : IC) : K :=
  IC.rec (motive := fun _ => K) kSkip (fun l => evOps kn call l) (fun n l => kDraw kn call n l) (fun _ _ a b => kSeq a b) (fun x _ _ a b => kCond x a b)
    (fun id _ b => kBlock id b) (fun _ b => kLoop b lf) kExit kRet kNone c

/-- a function, ready to run -/
structure SFn where
  body : CallF → Nat → K
  res : List RV

noncomputable def evF (kn : Nat → Bool) (fns : Nat → Option SFn) (dfns : Nat → Option FnIR) (ovr : CallF) (n : Nat) : CallF :=
  Nat.rec (motive := fun _ => CallF) (fun _ _ _ => none)
    (fun n ih f args S => match fns f with
      | none => ovr f args S
      | some fn => match fn.body ih n (Tr.putL args 0 .e) [] S with
        | none => none
        | some (x, E1, D1, S1) => finishFn kn dfns ih n fn.res x E1 D1 S1) n

/-! how it is made -/

/-- the slot of a guard -/
def cguard (ops : Array Oper) (g : Option (Nat × Bool)) : Option (Option (Nat × Bool)) :=
  match g with
  | none => some none
  | some (j, b) => match (ops[j]?).bind (·.dst) with
    | some t => some (some (t, b))
    | none => none

def dstOk (N : Nat) (d : Option Nat) : Bool := match d with | none => true | some i => Nat.blt i N

def gtmp (g : Option (Nat × Bool)) : Option Nat := match g with | none => none | some p => some p.1

/-- an operation that the evaluator lacks is 'bad': it stops there -/
def cio (P : Program) (G N : Nat) (ops : Array Oper) (o : Oper) : OpI :=
  match cop P o, cguard ops o.guard with
  | some io, some g => if glAll G o && dstOk N o.dst && dstOk N (gtmp g) then ⟨o.dst, g, io⟩ else ⟨none, none, .bad⟩
  | _, _ => ⟨none, none, .bad⟩

end Go.Eng

/- How the evaluator's code is made of the model's. -/
set_option linter.unusedSimpArgs false
set_option linter.unusedVariables false
namespace Go.Eng

def Opd.tmp? : Opd → Option Nat
  | .t i => some i
  | .c _ => none

def IOp.ol : IOp → List Opd
  | .mv x | .box x | .ld _ x | .nilck x | .un _ x | .cvi _ x | .cvs x | .s2b x | .b2s x | .mkif _ x | .clr _ x | .fa _ x | .fld _ _ x | .ext x _ | .len _ x | .cap x | .pan x | .tass _ _ _ x => [x]
  | .pick c a b => [c, a, b]
  | .build _ ps => ps.map fun p => p.2.2
  | .bslice _ _ ps => ps.map fun p => p.2.2
  | .st _ x y | .num _ x y | .eqv _ _ _ _ x y | .mksl _ _ x y | .ias _ x y | .iaa _ _ x y | .ixa _ _ _ x y | .ixs x y | .look _ _ _ x y | .app _ _ x y | .appz _ _ x y | .del _ x y | .cpy _ x y => [x, y]
  | .mkfn _ a b => a ++ b
  | .slS x lo hi | .slL _ x lo hi | .slA _ _ x lo hi => x :: (lo.toList ++ hi.toList)
  | .sl3 _ x lo hi mx => x :: hi :: mx :: lo.toList
  | .mup _ x i y | .ins _ x i y => [x, i, y]
  | .mm _ x ys => x :: ys
  | .call _ l => l
  | .calld x l | .dfr x l => x :: l
  | .mkmap | .recov | .bad => []

def OpI.ts (o : OpI) : List Nat := o.op.ol.filterMap Opd.tmp? ++ (match o.guard with | some (t, _) => [t] | none => [])

/-- 0: touches no memory; 1: reads; 2: makes memory; 3: has an effect -/
def cls : IOp → Nat
  | .mv _ | .pick .. | .build .. | .nilck _ | .num .. | .un .. | .cvi .. | .cvs _ | .mkif .. | .mkfn .. | .slS .. | .slL .. | .sl3 .. | .fa .. | .fld .. | .ias .. | .iaa .. | .ixa .. | .ixs .. | .ext .. | .mm .. | .tass .. | .cap _ => 0
  | .ld .. | .eqv .. | .b2s _ | .look .. | .len .. | .slA .. => 1
  | .box _ | .bslice .. | .mkmap | .mksl .. | .s2b _ => 2
  | _ => 3

def effs (l : List (Nat × OpI)) : List Nat := l.filterMap fun p => if cls p.2.op = 3 then some p.1 else none

def DI.isE : DI → Bool
  | .e .. => true
  | _ => false

/-- the slots of an insert's key and value -/
def kvts (o : OpI) : List Nat := match insK o with
  | some (_, _, k, v) => [k, v].filterMap Opd.tmp?
  | none => []

/-- what is asked of an item by itself -/
def itemOk (its : List DI) (x : DI) : Bool :=
  match x with
  | .m _ o l => (match o.dst with
      | some t => l.all fun p => match insK p.2 with
        | some (_, t', _, _) => t' == t
        | none => false
      | none => false) && decide (l.map (·.1)).Nodup
  | .n i _ j => its.any fun z => match z with
    | .m i' _ l => i' == j && l.any (·.1 == i)
    | _ => false
  | _ => true

/-- what is asked of a literal at place 'c' and an item at place 'd' -/
def litOk (its : List DI) (x y : DI) (c d : Nat) : Bool :=
  match x with
  | .m i _ l => (l.all fun p =>
      ((kvts p.2).all fun t => !(y.o.dst == some t) || Nat.blt d c) &&
      (!(y.i == p.1) || (match y with | .n _ _ j => j == i && Nat.blt c d | _ => false)) &&
      (!(y.isE && Nat.blt c d) || (its.take d).any fun z => z.i == p.1))
  | _ => true

/-- what is asked of a read of a literal, at place 'd' -/
def lookOk (b : Array Nat) (its : List DI) (x : DI) (d : Nat) : Bool :=
  match x with
  | .k i o j => cls o.op == 1 && (b.getD i 0).testBit j && its.zipIdx.any fun (z, c) => match z with
    | .m i' _ l => i' == j && Nat.blt c d && (l.all fun p => (b.getD i 0).testBit p.1) && its.zipIdx.all fun (y, e) => !(y.isE && Nat.ble c e && Nat.blt e d)
    | _ => false
  | _ => true

/-- does item 'c' wait for item 'd', and stand behind it? -/
def drawOk (ops : Array Oper) (b : Array Nat) (its : List DI) : Bool :=
  its.length == ops.size &&
  ((List.range ops.size).all fun i => ((ops[i]?).map fun o => o.after.all fun e => !Region.binds .any e || Nat.blt e.on i).getD false) &&
  ((List.range ops.size).all fun i => its.any fun d => d.i == i) &&
  (its.all fun x => itemOk its x) &&
  (its.zipIdx.all fun (x, d) => lookOk b its x d) &&
  (its.zipIdx.all fun (x, c) => its.zipIdx.all fun (y, d) =>
    (c == d || (x.i != y.i && (x.o.dst.isNone || x.o.dst != y.o.dst))) &&
    (match y.o.dst with
      | none => true
      | some t => !x.o.ts.contains t || c == d || (Nat.blt d c && (b.getD x.i 0).testBit y.i) || (Nat.blt c d && (b.getD y.i 0).testBit x.i)) &&
    (!(x.isE && Nat.blt d c) || (b.getD x.i 0).testBit y.i) &&
    litOk its x y c d &&
    (match x with
      | .r i lo o => cls o.op == 1 && Nat.ble lo ((its.take c).countP DI.isE) && (!y.isE || Nat.ble lo ((its.take d).countP DI.isE) || (b.getD i 0).testBit y.i)
      | _ => true))

/-- the makers of maps that have inserts, with those -/
def lits (l : List (Nat × OpI)) : List (Nat × List (Nat × OpI)) :=
  l.filterMap fun p => match p.2.guard, p.2.op, p.2.dst with
    | none, .mkmap, some t => match l.filter fun q => match insK q.2 with
        | some (_, t', _, _) => t' == t
        | none => false with
      | [] => none
      | ins => some (p.1, ins)
    | _, _, _ => none

/-- a stretch between two effects: what waits for no literal; the literals; the rest -/
def regroup (b : Array Nat) (ls : List (Nat × List (Nat × OpI))) (seg : List Nat) : List Nat :=
  let mine := fun i => ls.any fun p => p.1 == i || p.2.any (·.1 == i)
  let waits := fun i => ls.any fun p => (b.getD i 0).testBit p.1
  (seg.filter fun i => !mine i && !waits i) ++ (ls.flatMap fun p => if seg.contains p.1 then p.1 :: p.2.map (·.1) else []) ++ (seg.filter fun i => !mine i && waits i)

/-- the order in which they are carried out: ahead of each effect what it waits for; at last the rest -/
def canon (b : Array Nat) (ls : List (Nat × List (Nat × OpI))) (n : Nat) : List Nat → List Nat → List Nat
  | [], done => done ++ regroup b ls ((List.range n).filter fun i => !done.contains i)
  | e :: es, done => canon b ls n es (done ++ regroup b ls ((List.range n).filter fun i => (b.getD e 0).testBit i && !done.contains i) ++ [e])

/-- the literal that a look-up reads, if it reads one -/
def litOf (b : Array Nat) (ls : List (Nat × List (Nat × OpI))) (il : List (Nat × OpI)) (i : Nat) (o : OpI) : Option Nat :=
  match o.op with
  | .look _ _ _ (.t t) _ => (ls.find? fun p => (b.getD i 0).testBit p.1 && il.any fun q => q.1 == p.1 && (match q.2.dst with
      | some u => u == t || il.any fun r => r.2.dst == some t && (match r.2.op with | .mv (.t v) => v == u | _ => false)
      | none => false)).map (·.1)
  | _ => none

def cdi (b : Array Nat) (ls : List (Nat × List (Nat × OpI))) (il : List (Nat × OpI)) (es : List Nat) (i : Nat) (o : OpI) : DI :=
  match ls.find? (·.1 == i) with
  | some p => .m i o p.2
  | none => match ls.find? fun p => p.2.any (·.1 == i) with
    | some p => .n i o p.1
    | none => match cls o.op with
      | 0 => .q i o
      | 1 => match litOf b ls il i o with
        | some j => .k i o j
        | none => .r i ((es.filter fun e => (b.getD i 0).testBit e).length) o
      | 2 => .q i o
      | _ => .e i o

def cdraw (ops : Array Oper) (l : List OpI) : IC :=
  let b := CheckFast.beforeF ops
  let il := (List.range l.length).zip l
  let ls := lits il
  let es := (effs il).filter fun i => !(ls.any fun p => p.2.any (·.1 == i))
  let o := canon b ls l.length es []
  let its := o.filterMap fun i => (l[i]?).map (cdi b ls il es i)
  if drawOk ops b its then .draw l.length its else .bad

def ccode (P : Program) (G N : Nat) : Code → IC
  | .skip => .skip
  | .region _ ops false => .ops (ops.toList.map (cio P G N ops))
  | .region _ ops true => cdraw ops (ops.toList.map (cio P G N ops))
  | .seq a b => .seq (ccode P G N a) (ccode P G N b)
  | .cond c a b => match copd c with
    | some c => .cond c (ccode P G N a) (ccode P G N b)
    | none => .bad
  | .block id b => .block id (ccode P G N b)
  | .loop b => .loop (ccode P G N b)
  | .exit id => .exit id
  | .ret => .ret
  | _ => .bad

def cres (P : Program) : List ResultVar → Option (List RV)
  | [] => some []
  | .tmp t :: l => (cres P l).map (RV.t t :: ·)
  | .cell a t :: l => match shapeOf P t, cres P l with
    | some sh, some r => some (RV.cell a sh :: r)
    | _, _ => none

def cfn (P : Program) (fn : Func) : Option FnIR :=
  match fn.body with
  | none => none
  | some c => match cres P fn.results.toList with
    | some r => some ⟨ccode P P.globals.size fn.ntmps c, r⟩
    | none => none

end Go.Eng

/- An operation of the evaluator's form does what the model's does. -/
set_option linter.unusedSimpArgs false
set_option linter.unusedVariables false
namespace Go.Eng
variable {P : Program} {G : Nat} {μ : Mp} {S S' : AH} {w : World}

structure EnvR (N : Nat) (μ : Mp) (E : Env) (a : Act) : Prop where
  size : N ≤ a.tmps.size
  get : ∀ i x, E.get i = some x → VR μ x (a.tmps.getD i undef)

theorem EnvR.mono {N : Nat} {μ μ' : Mp} {E : Env} {a : Act} (h : EnvR N μ E a) (hm : μ.le μ') : EnvR N μ' E a := ⟨h.size, fun i x hx => (h.get i x hx).mono hm⟩

/-- what is known of the functions that the evaluator knows -/
def Known (P : Program) (kn : Nat → Bool) : Prop := ∀ f, kn f = true → ∃ fn, P.funcs[f]? = some fn ∧ fn.body.isSome = true ∧ fn.name ≠ "runtime.NumGoroutine"

def NX (P : Program) (μ : Mp) (x : ANx) (r : Result Next) (w : World) : Prop :=
  match x with
  | .val v => ∃ v', (r = .ok (.value v') w ∨ (r = .ok .skip w ∧ v' = undef)) ∧ VR μ v v'
  | .enter f args => ∃ vs, r = .ok (.enter f vs) w ∧ VRL μ args vs.toList
  | .dfr f args => ∃ d fv cap, r = .ok (.defer d) w ∧ d.target = .fn fv cap ∧ ∀ w', ∃ vs, (invoke d.target d.args).run P w' = .ok (.enter f vs) w' ∧ VRL μ args vs.toList
  | .recov => r = .ok .recover w
  | .pan v => ∃ t v', r = .halt (.panic (.iface t v')) w ∧ VR μ v (.iface t v')

def Out (P : Program) (G : Nat) (μ : Mp) (S : AH) (w : World) (r : Result Next) (x : ANx) (S' : AH) : Prop :=
  ∃ μ' w', Rel G μ' S' w' ∧ Ext μ S w μ' S' w' ∧ NX P μ' x r w'

theorem Out.ofV {m : Sem Value} {v : AV} (h : RunsV P G μ S w m v S') : Out P G μ S w ((do Pure.pure (.value (← m)) : Sem Next).run P w) (.val v) S' := by
  obtain ⟨μ', y, w', h1, h2, h3, h4⟩ := h
  exact ⟨μ', w', h3, h4, y, .inl (by simp [h1]), h2⟩

theorem Out.ofP {m : Sem Value} {v : AV} (hR : Rel G μ S w) (h : ∃ y, m.run P w = .ok y w ∧ VR μ v y) : Out P G μ S w ((do Pure.pure (.value (← m)) : Sem Next).run P w) (.val v) S := by
  obtain ⟨y, h1, h2⟩ := h
  exact Out.ofV ⟨μ, y, w, h1, h2, hR, Ext.refl _ _ _⟩

theorem Out.ofU {m : Sem Unit} {μ' : Mp} {w' : World} (h : m.run P w = .ok () w') (hR : Rel G μ' S' w') (hE : Ext μ S w μ' S' w') : Out P G μ S w ((do m; Pure.pure .skip : Sem Next).run P w) (.val .u) S' :=
  ⟨μ', w', hR, hE, undef, .inr ⟨by simp [h], rfl⟩, by simp [VR]⟩

theorem vR_some {x : Option (AV × AH)} {y : ANx} (h : vR x = some (y, S')) : ∃ v, x = some (v, S') ∧ y = .val v := by
  unfold vR at h
  split at h
  · cases h; exact ⟨_, rfl, rfl⟩
  · cases h

theorem vS_some {x : Option AV} {y : ANx} (h : vS x S = some (y, S')) : ∃ v, x = some v ∧ y = .val v ∧ S' = S := by
  unfold vS at h
  split at h
  · cases h; exact ⟨_, rfl, rfl, rfl⟩
  · cases h

theorem opd_sound {N : Nat} {E : Env} {a : Act} (hR : Rel G μ S w) (hE : EnvR N μ E a) {x : Operand} {y : Opd} (h : copd x = some y) (hG : ∀ g, x = .global g → g < G) : VR μ (opd E y) (a.eval x) := by
  cases x with
  | tmp t =>
    simp only [copd, Option.some.injEq] at h; subst h
    simp only [opd, Act.eval]
    cases hx : E.get t with
    | none => simp [VR]
    | some v => exact hE.get t v hx
  | const v =>
    simp only [copd] at h
    split at h
    · rename_i z hz; cases h; exact cval_sound hz μ
    · cases h
  | global g =>
    simp only [copd, Option.some.injEq] at h; subst h
    obtain ⟨r, hr⟩ := hR.glob g (hG g rfl)
    simp only [opd, Act.eval, VR]
    exact ⟨_, hr, by simp⟩
  | func f =>
    simp only [copd, Option.some.injEq] at h; subst h
    simp only [opd, Act.eval, VR]
    exact ⟨#[], #[], rfl, by simp [VRL], by simp [VRL]⟩

theorem glOk_spec {G : Nat} {x : Operand} (h : glOk G x = true) : ∀ g, x = .global g → g < G := by
  rintro g rfl
  simp only [glOk, Nat.blt] at h
  exact Nat.le_of_ble_eq_true h

theorem opds_nil (E : Env) : opds E [] = [] := rfl
theorem opds_cons (E : Env) (x : Opd) (l : List Opd) : opds E (x :: l) = opd E x :: opds E l := rfl
theorem parts_nil (E : Env) : parts E [] = [] := rfl
theorem parts_cons (E : Env) (p : Nat × Nat × Opd) (l : List (Nat × Nat × Opd)) : parts E (p :: l) = (p.1, p.2.1, opd E p.2.2) :: parts E l := rfl

theorem opds_sound {N : Nat} {E : Env} {a : Act} (hR : Rel G μ S w) (hE : EnvR N μ E a) : ∀ {l : List Operand} {r : List Opd}, copds l = some r → (∀ x ∈ l, glOk G x = true) → VRL μ (opds E r) (l.map a.eval)
  | [], r, h, _ => by simp only [copds, Option.some.injEq] at h; subst h; simp [opds_nil, VRL]
  | x :: l, r, h, hg => by
    simp only [copds] at h
    split at h
    · rename_i y r' h1 h2
      cases h
      rw [opds_cons, List.map_cons]
      simp only [VRL]
      exact ⟨opd_sound hR hE h1 (glOk_spec (hg x (by simp))), opds_sound hR hE h2 (fun y hy => hg y (by simp [hy]))⟩
    · cases h

theorem parts_sound {N : Nat} {E : Env} {a : Act} (hR : Rel G μ S w) (hE : EnvR N μ E a) (pl : Nat → Option (Nat × Nat)) : ∀ {l : List (Nat × Operand)} {r : List (Nat × Nat × Opd)}, cparts pl l = some r → (∀ p ∈ l, glOk G p.2 = true) →
    (parts E r).length = l.length ∧ ∀ (i : Nat) p q, (parts E r)[i]? = some p → (l.map fun p => (p.1, a.eval p.2))[i]? = some q → pl q.1 = some (p.1, p.2.1) ∧ VR μ p.2.2 q.2
  | [], r, h, _ => by simp only [cparts, Option.some.injEq] at h; subst h; simp [parts_nil]
  | p :: l, r, h, hg => by
    simp only [cparts] at h
    split at h
    · rename_i o s x r' h1 h2 h3
      cases h
      obtain ⟨e1, e2⟩ := parts_sound hR hE pl h3 (fun y hy => hg y (by simp [hy]))
      rw [parts_cons]
      refine ⟨by simp [e1], ?_⟩
      intro i p' q hp hq
      cases i with
      | zero =>
        simp only [List.map_cons, List.getElem?_cons_zero, Option.some.injEq] at hp hq
        subst hp; subst hq
        exact ⟨h1, opd_sound hR hE h2 (glOk_spec (hg p (by simp)))⟩
      | succ i => exact e2 i p' q (by simpa using hp) (by simpa using hq)
    · cases h

theorem oopd_sound {N : Nat} {E : Env} {a : Act} (hR : Rel G μ S w) (hE : EnvR N μ E a) {x : Option Operand} {y : Option Opd} (h : coopd x = some y) (hg : ∀ z, x = some z → glOk G z = true) : OVR μ (oopd E y) (x.map a.eval) := by
  cases x with
  | none => simp only [coopd, Option.some.injEq] at h; subst h; simp [oopd, OVR]
  | some x =>
    simp only [coopd] at h
    split at h
    · rename_i z hz; cases h; simp only [oopd, Option.map_some, OVR]; exact opd_sound hR hE hz (glOk_spec (hg x rfl))
    · cases h

theorem elemOf_spec {e : TypeId} {z : List AV} {i : TypeInfo} (h : elemOf P e = some (z, i)) : ∃ zz zv, P.info? e = some i ∧ zeroOf P e = some zz ∧ zz.cells = z ∧ i.size = z.length ∧ i.zero = some zv ∧ zv.cells.size = i.size := by
  unfold elemOf at h
  split at h
  · rename_i i' z' hi hz
    split at h
    · rename_i hs
      cases h
      obtain ⟨ti, zv, hi', hzv, hzr⟩ := zeroOf_sound hz
      rw [hi] at hi'; cases hi'
      have hzc : z'.one = true ∨ ∃ l, z' = .agg l := by
        unfold zeroOf at hz
        rw [hi] at hz
        simp only [hzv] at hz
        exact cval_cells hz
      have := ((hzr (fun _ => none)).cells hzc).length
      exact ⟨z', zv, hi, hz, rfl, hs, hzv, by rw [hs, this]; simp⟩
    · cases h
  · cases h

/-! numbers and texts -/

theorem enum_sound {op : BinOp} {x y v : AV} {a b : Value} (t : TypeId) (ox oy : Operand) (hx : VR μ x a) (hy : VR μ y b) (h : enum op x y = some v) : ∃ u, ((do eqGuard op t ox oy a b; binOp op t a b) : Sem Value).run P w = .ok u w ∧ VR μ v u := by
  unfold enum at h
  split at h
  · rename_i k p k' q
    simp only [VR] at hx hy
    subst hx; subst hy
    have hg : eqGuard op t ox oy (.int k p) (.int k' q) = Pure.pure () := eqGuard_at_int op t ox oy (.int k' q) k p
    simp only [hg, Sem.run_bind, Sem.run_pure, Result.andThen_ok]
    split at h
    · split at h
      · rename_i r hr; cases h; exact ⟨_, ishift_run hr t w, by simp [VR]⟩
      · cases h
    · split at h
      · rename_i r hr; cases h; exact ⟨_, ishift_run hr t w, by simp [VR]⟩
      · cases h
    all_goals
      cases hk : k == k' with
      | false => rw [hk] at h; cases h
      | true =>
        rw [hk, cond_true] at h
        have : k = k' := by simpa using hk
        subst this
        split at h
        · rename_i r hr; cases h
          first
            | exact ⟨_, icmp_run hr t w, by simp [VR]⟩
            | exact ⟨_, iop_run hr t w, by simp [VR]⟩
        · cases h
  · simp only [VR] at hx hy
    obtain ⟨s1, rfl, e1⟩ := hx
    obtain ⟨s2, rfl, e2⟩ := hy
    have hg : eqGuard op t ox oy (.string s1) (.string s2) = Pure.pure () := eqGuard_at_string op t ox oy (.string s2) s1
    simp only [hg, Sem.run_bind, Sem.run_pure, Result.andThen_ok]
    exact sop_sound t e1 e2 h
  · cases h

/-! == -/

def plainForEq : Value → Bool
  | .bool _ | .pointer _ | .slice .. | .map _ | .func .. | .nilFunc | .iface .. | .nilIface | .agg _ => true
  | _ => false

theorem binOp_eql' (t : TypeId) (a b : Value) (h : plainForEq a = true) : binOp .eql t a b = (do Pure.pure (.bool (← Op.equal t a b))) := by
  cases a <;> simp only [plainForEq, Bool.false_eq_true] at h <;> cases b <;> rfl

theorem binOp_neq' (t : TypeId) (a b : Value) (h : plainForEq a = true) : binOp .neq t a b = (do Pure.pure (.bool (!(← Op.equal t a b)))) := by
  cases a <;> simp only [plainForEq, Bool.false_eq_true] at h <;> cases b <;> rfl

def notNumStr (d : TypeDesc) : Bool := match d with | .int _ => false | .string => false | _ => true

theorem eeqv_sound {neg : Bool} {t : TypeId} {d : TypeDesc} {ks : List CK} (hd : P.underlying t = some d) (hk : flat P 100 t = some ks) (hni : notNumStr d = true) (hgd : (aggOf d && P.eqGuardType P.depth t) = false)
    {x y v : AV} {a b : Value} {ox oy : Operand} (hR : Rel G μ S w) (hx : VR μ x a) (hy : VR μ y b) (h : eeqv neg (aggOf d) ks (isConst ox || isConst oy) x y S = some v) :
    ∃ u, ((do eqGuard (if neg then .neq else .eql) t ox oy a b; binOp (if neg then .neq else .eql) t a b) : Sem Value).run P w = .ok u w ∧ VR μ v u := by
  unfold eeqv at h
  split at h
  · rename_i r hr
    cases hc : ((isConst ox || isConst oy) || !(bothNil x y)) with
    | false => rw [hc] at h; cases h
    | true =>
      rw [hc, cond_true] at h
      cases h
      have heq := flat_sound 100 t ks hk d hd x y a b r hR hx hy hr 9900
      have heq' : (Op.equal t a b).run P w = .ok r w := heq
      -- the values' shapes
      have hpl : plainForEq a = true := by
        unfold aeq at hr
        split at hr
        · rename_i hag
          split at hr
          · rename_i k
            have hkd : kindOf P d = some k := by
              obtain ⟨n, hn⟩ : ∃ n, 100 = n + 1 := ⟨99, rfl⟩
              rw [hn] at hk
              simp only [flat, hd] at hk
              cases d <;> simp only [aggOf, Bool.true_eq_false, reduceCtorEq] at hag hk
              all_goals
                split at hk
                · rename_i q hq; cases hk; exact hq
                · cases hk
            cases d <;> simp only [kindOf, notNumStr, Bool.false_eq_true, Option.some.injEq, reduceCtorEq] at hkd hni
            · subst hkd; unfold ceq at hr; cases x <;> simp only [reduceCtorEq] at hr; simp only [VR] at hx; subst hx; rfl
            · split at hkd
              · split at hkd
                · cases hkd
                · cases hkd
                  unfold ceq at hr
                  cases x <;> simp only [reduceCtorEq] at hr <;> simp only [VR] at hx
                  · subst hx; rfl
                  · obtain ⟨L, _, rfl⟩ := hx; rfl
              · cases hkd
            · subst hkd; unfold ceq at hr
              cases x <;> simp only [reduceCtorEq] at hr <;> simp only [VR] at hx
              · subst hx; rfl
              · obtain ⟨L, c, _, rfl, _⟩ := hx; rfl
              · obtain ⟨p, c, rfl⟩ := hx; rfl
            · subst hkd; unfold ceq at hr
              cases x <;> simp only [reduceCtorEq] at hr <;> simp only [VR] at hx
              · subst hx; rfl
              · obtain ⟨L, _, rfl⟩ := hx; rfl
            · subst hkd; unfold ceq at hr
              cases x <;> simp only [reduceCtorEq] at hr <;> simp only [VR] at hx
              · obtain ⟨fs, cs, rfl, _⟩ := hx; rfl
              · subst hx; rfl
            · subst hkd; unfold ceq at hr
              cases x <;> simp only [reduceCtorEq] at hr <;> simp only [VR] at hx
              · obtain ⟨q, rfl, _⟩ := hx; rfl
              · subst hx; rfl
          · cases hr
        · split at hr
          · simp only [VR] at hx; obtain ⟨cs, rfl, _⟩ := hx; rfl
          · cases hr
      have hguard : ∀ op, (eqGuard op t ox oy a b).run P w = .ok () w := by
        intro op
        have hag : aggOf d = false ∨ P.eqGuardType P.depth t = false := by
          cases hq : aggOf d with
          | false => exact .inl rfl
          | true => rw [hq] at hgd; exact .inr (by simpa using hgd)
        cases a <;> simp only [plainForEq, Bool.false_eq_true] at hpl
        case bool => rw [eqGuard_at_bool]; rfl
        case pointer => rw [eqGuard_at_pointer]; rfl
        case slice => rw [eqGuard_at_slice]; rfl
        case map => rw [eqGuard_at_map]; rfl
        case func => rw [eqGuard_at_func]; rfl
        case nilFunc => rw [eqGuard_at_nilFunc]; rfl
        case iface => rw [eqGuard_at_iface]; rfl
        case nilIface =>
          cases b <;> first
            | (cases op <;> rfl)
            | skip
          have hxn : x = .nili ∨ x = .u := by
            cases x <;> simp only [VR, reduceCtorEq] at hx
            all_goals first
              | exact .inl rfl
              | exact .inr rfl
              | (obtain ⟨_, h, _⟩ := hx; cases h; done)
              | (obtain ⟨_, _, h⟩ := hx; cases h; done)
              | (obtain ⟨_, _, _, h, _⟩ := hx; cases h; done)
              | (obtain ⟨_, _, h, _⟩ := hx; cases h; done)
          have hyn : y = .nili ∨ y = .u := by
            cases y <;> simp only [VR, reduceCtorEq] at hy
            all_goals first
              | exact .inl rfl
              | exact .inr rfl
              | (obtain ⟨_, h, _⟩ := hy; cases h; done)
              | (obtain ⟨_, _, h⟩ := hy; cases h; done)
              | (obtain ⟨_, _, _, h, _⟩ := hy; cases h; done)
              | (obtain ⟨_, _, h, _⟩ := hy; cases h; done)
          have hboth : x = .nili ∧ y = .nili := by
            unfold aeq at hr
            split at hr
            · split at hr
              · rename_i k
                rcases hxn with rfl | rfl <;> rcases hyn with rfl | rfl
                · exact ⟨rfl, rfl⟩
                · cases k <;> simp [ceq] at hr
                · cases k <;> simp [ceq] at hr
                · cases k <;> simp [ceq] at hr
              · cases hr
            · rcases hxn with rfl | rfl <;> rcases hyn with rfl | rfl <;> simp at hr
          obtain ⟨rfl, rfl⟩ := hboth
          simp only [bothNil, Bool.not_true, Bool.or_false, Bool.or_eq_true] at hc
          rcases hc with hc | hc
          · cases ox <;> simp only [isConst, Bool.false_eq_true] at hc
            rw [eqGuard_nil_constL]; rfl
          · cases oy <;> simp only [isConst, Bool.false_eq_true] at hc
            rw [eqGuard_nil_constR]; rfl
        case agg xs =>
          cases b <;> first
            | (cases op <;> rfl)
            | skip
          rename_i ys
          rcases hag with hag | hag
          · exfalso
            unfold aeq at hr
            rw [hag] at hr
            simp only at hr
            split at hr
            · rename_i k
              have : x.one = false := by
                cases x <;> simp only [VR, reduceCtorEq] at hx <;> first
                  | rfl
                  | (obtain ⟨_, h, _⟩ := hx; cases h; done)
                  | (obtain ⟨_, _, h⟩ := hx; cases h; done)
                  | (obtain ⟨_, _, _, h, _⟩ := hx; cases h; done)
                  | (obtain ⟨_, _, h, _⟩ := hx; cases h; done)
              unfold ceq at hr
              cases x <;> simp only [AV.one, Bool.true_eq_false, reduceCtorEq] at this <;> cases k <;> simp at hr
            · cases hr
          · exact run_eqGuard_agg w op t ox oy xs ys hag
      cases neg with
      | false =>
        refine ⟨.bool r, ?_, by simp [VR]⟩
        simp only [Bool.false_eq_true, if_false, Sem.run_bind, hguard, Result.andThen_ok, binOp_eql' t a b hpl, heq', Sem.run_pure]
      | true =>
        refine ⟨.bool (!r), ?_, by simp [VR]⟩
        simp only [if_true, Sem.run_bind, hguard, Result.andThen_ok, binOp_neq' t a b hpl, heq', Sem.run_pure]
  · cases h

end Go.Eng

/- An operation of the evaluator's form does what the model's does: all kinds together. -/
set_option linter.unusedSimpArgs false
set_option linter.unusedVariables false
namespace Go.Eng
variable {P : Program} {G : Nat} {μ : Mp} {S S' : AH} {w : World}

theorem glAll_mem {o : Oper} (h : glAll G o = true) {x : Operand} (hx : x ∈ o.op.operands) : ∀ g, x = .global g → g < G :=
  glOk_spec (List.all_eq_true.1 h x (by simpa using hx))

theorem glAll_mem' {o : Oper} (h : glAll G o = true) {x : Operand} (hx : x ∈ o.op.operands) : glOk G x = true := List.all_eq_true.1 h x (by simpa using hx)

theorem run_callFunc {kn : Nat → Bool} (hkn : Known P kn) {f : Nat} (hf : kn f = true) (args : Array Value) (w : World) : (callFunc f args).run P w = .ok (.enter f args) w := by
  obtain ⟨fn, h1, h2, h3⟩ := hkn f hf
  cases hb : fn.body with
  | none => rw [hb] at h2; cases h2
  | some c => simp [callFunc, h1, h3, hb]

theorem toList_eq_one {α : Type} {a : Array α} {x : α} (h : a.toList = [x]) : a = #[x] := by
  apply Array.ext'; simpa using h
theorem toList_eq_two {α : Type} {a : Array α} {x y : α} (h : a.toList = [x, y]) : a = #[x, y] := by
  apply Array.ext'; simpa using h

theorem ccall_sound {kn : Nat → Bool} (hkn : Known P kn) {o : Oper} {c : Call} (ho : o.op = .call c) {io : IOp} (hc : ccall P c = some io) (hgl : glAll G o = true) {N : Nat} {E : Env} {a : Act} (hR : Rel G μ S w) (hE : EnvR N μ E a) {x : ANx}
    (h : ieval kn io E S = some (x, S')) (hf : Fresh μ S S') : Out P G μ S w ((execOp a.eval o).run P w) x S' := by
  have hmem : ∀ y, y ∈ c.operands → glOk G y = true := fun y hy => glAll_mem' hgl (by rw [ho]; exact hy)
  have hargs : ∀ y, y ∈ c.args → glOk G y = true := fun y hy => hmem y (by simp [Call.operands, hy])
  have hop : ∀ {y : Operand} {z : Opd}, copd y = some z → glOk G y = true → VR μ (opd E z) (a.eval y) := fun h1 h2 => opd_sound hR hE h1 (glOk_spec h2)
  unfold ccall at hc
  split at hc
  · -- builtins
    rename_i b hcal
    have hexec : execOp a.eval o = builtin b c.argTypes o.type (c.args.map fun | .const _ => true | _ => false) (c.args.map a.eval) := by
      simp only [execOp, ho, resolve, hcal]
      rfl
    rw [hexec]
    split at hc
    · rename_i t y hat hag
      have e1 := toList_eq_one hat
      have e2 := toList_eq_one hag
      split at hc
      · rename_i d z hd hz
        have hv := hop hz (hargs y (by rw [e2]; simp))
        split at hc
        · cases hc
          simp only [ieval] at h
          cases hfit : lenFit _ (opd E z) with
          | false => rw [hfit] at h; cases h
          | true =>
            rw [hfit, cond_true] at h
            obtain ⟨v, h1, rfl, rfl⟩ := vS_some h
            refine Out.ofP hR ?_
            rw [e1, e2]
            simp only [List.map_toArray, List.map_cons, List.map_nil]
            exact elen_sound hd hR hv h1 hfit
        · cases hc
          simp only [ieval] at h
          cases hfit : lenFit _ (opd E z) with
          | false => rw [hfit] at h; cases h
          | true =>
            rw [hfit, cond_true] at h
            obtain ⟨v, h1, rfl, rfl⟩ := vS_some h
            refine Out.ofP hR ?_
            rw [e1, e2]
            simp only [List.map_toArray, List.map_cons, List.map_nil]
            exact elen_sound hd hR hv h1 hfit
        · cases hc
          simp only [ieval] at h
          cases hfit : lenFit _ (opd E z) with
          | false => rw [hfit] at h; cases h
          | true =>
            rw [hfit, cond_true] at h
            obtain ⟨v, h1, rfl, rfl⟩ := vS_some h
            refine Out.ofP hR ?_
            rw [e1, e2]
            simp only [List.map_toArray, List.map_cons, List.map_nil]
            exact elen_sound hd hR hv h1 hfit
        · rename_i n e
          cases hc
          simp only [ieval, opd, Option.some.injEq, Prod.mk.injEq] at h
          obtain ⟨rfl, rfl⟩ := h
          refine Out.ofP hR ⟨goInt n, ?_, by simp [VR, goInt]⟩
          rw [e1, e2]
          simp [Builtin.len_, run_underlying hd]
        · cases hc
      · cases hc
    · rename_i t y hat hag
      have e1 := toList_eq_one hat
      have e2 := toList_eq_one hag
      split at hc
      · rename_i e z hd hz
        have hv := hop hz (hargs y (by rw [e2]; simp))
        cases hc
        simp only [ieval] at h
        obtain ⟨v, h1, rfl, rfl⟩ := vS_some h
        refine Out.ofP hR ?_
        rw [e1, e2]
        simp only [List.map_toArray, List.map_cons, List.map_nil]
        unfold ecap at h1
        split at h1
        · cases h1
          rename_i heq
          rw [heq] at hv
          simp only [VR] at hv
          rw [hv]
          exact ⟨goInt 0, by simp [Builtin.cap_, run_underlying hd], by simp [VR, goInt]⟩
        · cases h1
          rename_i heq
          rw [heq] at hv
          simp only [VR] at hv
          obtain ⟨L, c', hL, hv, q1, q2, _⟩ := hv
          rw [hv]
          have q2' := q2 (by trivial)
          exact ⟨goInt c', by simp [Builtin.cap_, run_underlying hd], by simp [VR, goInt, q2']⟩
        · cases h1
      · cases hc
    · rename_i t xt s y hat hag
      have e1 := toList_eq_two hat
      have e2 := toList_eq_two hag
      split at hc
      · rename_i e dx zs zx hd hdx hs hy
        split at hc
        · rename_i hni
          split at hc
          · rename_i z i hel
            obtain ⟨zz, zv, hi, hz, _, hsz, hzv, hzs⟩ := elemOf_spec hel
            cases hc
            simp only [ieval] at h
            cases hsf : strFit i.size (opd E zx) with
            | false => rw [hsf] at h; cases h
            | true =>
              rw [hsf, cond_true] at h
              obtain ⟨v, h1, rfl⟩ := vR_some h
              refine Out.ofV ?_
              rw [e1, e2]
              simp only [List.map_toArray, List.map_cons, List.map_nil]
              refine eapp_sound hd hdx hni hi hzv hzs hR (hop hs (hargs s (by rw [e2]; simp))) (hop hy (hargs y (by rw [e2]; simp))) ?_ h1 hf
              intro l hl
              rw [hl] at hsf
              exact Nat.eq_of_beq_eq_true hsf
          · cases hc
        · rename_i hni
          have hint : ∃ kx, dx = .int kx := by
            cases dx <;> simp only [notInt, not_true_eq_false, not_false_eq_true] at hni
            exact ⟨_, rfl⟩
          obtain ⟨kx, rfl⟩ := hint
          split at hc
          · rename_i z i hel
            obtain ⟨zz, zv, hi, hz, rfl, hsz, hzv, hzs⟩ := elemOf_spec hel
            obtain ⟨ti, zv', hi', hzv', hzr⟩ := zeroOf_sound hz
            rw [hi] at hi'; cases hi'
            rw [hzv] at hzv'; cases hzv'
            cases hc
            simp only [ieval] at h
            obtain ⟨v, h1, rfl⟩ := vR_some h
            refine Out.ofV ?_
            rw [e1, e2]
            simp only [List.map_toArray, List.map_cons, List.map_nil]
            exact eappz_sound hd hdx hi hzv hzs hsz (hzr μ) hR (hop hs (hargs s (by rw [e2]; simp))) (hop hy (hargs y (by rw [e2]; simp))) h1 hf
          · cases hc
      · cases hc
    · rename_i t xt s y hat hag
      have e1 := toList_eq_two hat
      have e2 := toList_eq_two hag
      split at hc
      · rename_i e zs zx hd hs hy
        split at hc
        · rename_i i hi
          cases hc
          simp only [ieval] at h
          cases hsf : strFit i.size (opd E zx) with
          | false => rw [hsf] at h; cases h
          | true =>
            rw [hsf, cond_true] at h
            obtain ⟨v, h1, rfl⟩ := vR_some h
            refine Out.ofV ?_
            rw [e1, e2]
            simp only [List.map_toArray, List.map_cons, List.map_nil]
            refine ecopy_sound hd hi hR (hop hs (hargs s (by rw [e2]; simp))) (hop hy (hargs y (by rw [e2]; simp))) ?_ h1
            intro l hl
            rw [hl] at hsf
            exact Nat.eq_of_beq_eq_true hsf
        · cases hc
      · cases hc
    · rename_i y ys hag
      split at hc
      · rename_i zy zys hy hys
        cases hc
        simp only [ieval] at h
        obtain ⟨v, h1, rfl, rfl⟩ := vS_some h
        refine Out.ofP hR ?_
        have hm : ∀ q ∈ y :: ys, glOk G q = true := fun q hq => hargs q (by rw [← Array.mem_toList_iff, hag]; exact hq)
        have hfold := emm_max (P := P) (w := w) _ _ _ _ _ (hop hy (hm y (by simp))) (opds_sound hR hE hys (fun q hq => hm q (by simp [hq]))) h1
        simp only [Builtin.max_, Array.toList_map, hag, List.map_cons]
        exact hfold
      · cases hc
    · rename_i y ys hag
      split at hc
      · rename_i zy zys hy hys
        cases hc
        simp only [ieval] at h
        obtain ⟨v, h1, rfl, rfl⟩ := vS_some h
        refine Out.ofP hR ?_
        have hm : ∀ q ∈ y :: ys, glOk G q = true := fun q hq => hargs q (by rw [← Array.mem_toList_iff, hag]; exact hq)
        have hfold := emm_min (P := P) (w := w) _ _ _ _ _ (hop hy (hm y (by simp))) (opds_sound hR hE hys (fun q hq => hm q (by simp [hq]))) h1
        simp only [Builtin.min_, Array.toList_map, hag, List.map_cons]
        exact hfold
      · cases hc
    · rename_i t y hat hag
      have e1 := toList_eq_one hat
      have e2 := toList_eq_one hag
      split at hc
      · rename_i e z hd hz
        have hv := hop hz (hargs y (by rw [e2]; simp))
        split at hc
        · rename_i zz hzz
          cases hc
          simp only [ieval] at h
          obtain ⟨v, h1, rfl⟩ := vR_some h
          refine Out.ofV ?_
          rw [e1, e2]
          simp only [List.map_toArray, List.map_cons, List.map_nil]
          exact eclear_sound hd hzz hR hv h1
        · cases hc
      · cases hc
    · rename_i t tx m k hat hag
      have e1 := toList_eq_two hat
      have e2 := toList_eq_two hag
      split at hc
      · rename_i kt et zm zk hd hm hk
        split at hc
        · rename_i kd hkd
          cases hc
          simp only [ieval] at h
          split at h
          · rename_i S1 h1
            cases h
            have hdel := fun ty => edel_sound (ty := ty) (ts := c.argTypes) (by rw [e1]; rfl) hd hkd hR (hop hm (hargs m (by rw [e2]; simp))) (hop hk (hargs k (by rw [e2]; simp))) h1
            refine Out.ofV ?_
            rw [e2]
            simp only [List.map_toArray, List.map_cons, List.map_nil]
            obtain ⟨w', g1, g2, g3⟩ := hdel _
            exact ⟨μ, .tuple #[], w', g1, by simp only [VR]; exact ⟨#[], rfl, by simp [VRL]⟩, g2, g3⟩
          · cases h
        · cases hc
      · cases hc
    · cases hc
      simp only [ieval, Option.some.injEq, Prod.mk.injEq] at h
      obtain ⟨rfl, rfl⟩ := h
      exact ⟨μ, w, hR, Ext.refl _ _ _, rfl⟩
    · cases hc
  · -- calls
    rename_i f hcal
    split at hc
    · rename_i args hag
      have hvs := opds_sound hR hE hag (fun q hq => hargs q (by simpa using hq))
      split at hc
      · rename_i g
        cases hc
        simp only [ieval] at h
        cases hk : kn g with
        | false => rw [hk] at h; cases h
        | true =>
          rw [hk, cond_true] at h
          cases h
          have hexec : (execOp a.eval o).run P w = (callFunc g (c.args.map a.eval)).run P w := by
            simp only [execOp, ho, resolve, hcal, Act.eval, Deferred.ofValue, Sem.run_bind, Sem.run_pure, Result.andThen_ok, invoke]
            simp
          refine ⟨μ, w, hR, Ext.refl _ _ _, ?_⟩
          refine ⟨c.args.map a.eval, ?_, by simpa using hvs⟩
          rw [hexec]; exact run_callFunc hkn hk _ w
      · split at hc
        · rename_i z hz
          cases hc
          simp only [ieval] at h
          have hv := hop hz (hmem f (by simp [Call.operands, hcal]))
          split at h
          · rename_i fg first cap heq
            cases hk : kn fg with
            | false => rw [hk] at h; cases h
            | true =>
              rw [hk, cond_true] at h
              cases h
              rw [heq] at hv
              simp only [VR] at hv
              obtain ⟨fs, cs, hfv, hv1, hv2⟩ := hv
              have hexec : (execOp a.eval o).run P w = (callFunc fg (fs ++ c.args.map a.eval ++ cs)).run P w := by
                simp only [execOp, ho, resolve, hcal, hfv, Deferred.ofValue, Sem.run_bind, Sem.run_pure, Result.andThen_ok, invoke]
              refine ⟨μ, w, hR, Ext.refl _ _ _, ?_⟩
              refine ⟨fs ++ c.args.map a.eval ++ cs, ?_, ?_⟩
              · rw [hexec]; exact run_callFunc hkn hk _ w
              · simp only [Array.toList_append, Array.toList_map]
                exact VRL.append (VRL.append hv1 hvs) hv2
          · cases h
        · cases hc
    · cases hc
  · cases hc

end Go.Eng

/- An operation of the evaluator's form does what the model's does: the theorem. -/
set_option linter.unusedSimpArgs false
set_option linter.unusedVariables false
namespace Go.Eng
variable {P : Program} {G : Nat} {μ : Mp} {S S' : AH} {w : World}

theorem etass_sound {xt t : TypeId} {d : TypeDesc} (hd : P.underlying t = some d) (hni : ∀ ms, d ≠ .interface ms) {z : AV} (hz : zeroOf P t = some z) {ok : Bool} {x v : AV} {a : Value} (hx : VR μ x a) (h : etass t z ok x = some v) :
    ∃ y, (Instr.typeAssert a xt t ok).run P w = .ok y w ∧ VR μ v y := by
  obtain ⟨ti, zv, hi, hzv, hzr⟩ := zeroOf_sound hz
  unfold etass at h
  split at h
  · rename_i u x'
    simp only [VR] at hx
    obtain ⟨y, rfl, hy⟩ := hx
    cases hb : Nat.beq u t with
    | true =>
      rw [hb, cond_true] at h
      have e := Nat.eq_of_beq_eq_true hb
      subst e
      cases h
      refine ⟨if ok then .tuple #[y, .bool true] else y, ?_, ?_⟩
      · unfold Instr.typeAssert
        simp only [Sem.run_bind, run_underlying hd, Result.andThen_ok]
        cases d <;> first
          | exact absurd rfl (hni _)
          | (simp only [if_true, Sem.run_pure])
      · cases ok with
        | false => simpa using hy
        | true => simp only [cond_true, if_true, VR]; exact ⟨_, rfl, by simp only [VRL]; exact ⟨hy, by simp [VR], trivial⟩⟩
    | false =>
      rw [hb, cond_false] at h
      have hne : u ≠ t := fun e => by subst e; simp at hb
      cases ok with
      | false => cases h
      | true =>
        simp only [cond_true, Option.some.injEq] at h
        subst h
        refine ⟨.tuple #[zv, .bool false], ?_, ?_⟩
        · unfold Instr.typeAssert
          simp only [Sem.run_bind, run_underlying hd, Result.andThen_ok]
          cases d <;> first
            | exact absurd rfl (hni _)
            | (simp only [if_true, hne, if_false, Sem.run_bind, run_zero hi hzv, Result.andThen_ok, Sem.run_pure])
        · simp only [VR]; exact ⟨_, rfl, by simp only [VRL]; exact ⟨hzr μ, by simp [VR], trivial⟩⟩
  · simp only [VR] at hx
    subst hx
    cases ok with
    | false => cases h
    | true =>
      simp only [cond_true, Option.some.injEq] at h
      subst h
      refine ⟨.tuple #[zv, .bool false], ?_, ?_⟩
      · unfold Instr.typeAssert
        simp only [Sem.run_bind, run_underlying hd, Result.andThen_ok]
        cases d <;> first
          | exact absurd rfl (hni _)
          | (simp only [if_true, Sem.run_bind, run_zero hi hzv, Result.andThen_ok, Sem.run_pure])
      · simp only [VR]; exact ⟨_, rfl, by simp only [VRL]; exact ⟨hzr μ, by simp [VR], trivial⟩⟩
  · cases h

theorem run_mkif {t : TypeId} {d : TypeDesc} (hd : P.underlying t = some d) (hni : ∀ ms, d ≠ .interface ms) (a : Value) : (Instr.makeInterface t a).run P w = .ok (.iface t a) w := by
  unfold Instr.makeInterface
  simp only [Sem.run_bind, run_underlying hd, Result.andThen_ok]
  cases d <;> first
    | exact absurd rfl (hni _)
    | rfl


structure Ctx (P : Program) (kn : Nat → Bool) (o : Oper) (G : Nat) (μ : Mp) (S S' : AH) (w : World) (N : Nat) (E : Env) (a : Act) : Prop where
  hkn : Known P kn
  hgl : glAll G o = true
  hR : Rel G μ S w
  hE : EnvR N μ E a
  hf : Fresh μ S S'

variable {kn : Nat → Bool} {o : Oper} {N : Nat} {E : Env} {a : Act} {io : IOp} {x : ANx}

theorem Ctx.op (C : Ctx P kn o G μ S S' w N E a) {y : Operand} {z : Opd} (h1 : copd y = some z) (h2 : y ∈ o.op.operands) : VR μ (opd E z) (a.eval y) := opd_sound C.hR C.hE h1 (glAll_mem C.hgl h2)
theorem Ctx.oop (C : Ctx P kn o G μ S S' w N E a) {y : Option Operand} {z : Option Opd} (h1 : coopd y = some z) (h2 : ∀ q, y = some q → q ∈ o.op.operands) : OVR μ (oopd E z) (y.map a.eval) := oopd_sound C.hR C.hE h1 (fun q hq => glAll_mem' C.hgl (h2 q hq))

theorem s_move (C : Ctx P kn o G μ S S' w N E a) {y : Operand} (ho : o.op = .move y ∨ o.op = .assign y) (hc : cop P o = some io) (h : ieval kn io E S = some (x, S')) : Out P G μ S w ((execOp a.eval o).run P w) x S' := by
  rcases ho with ho | ho
  all_goals
    simp only [cop, ho] at hc
    split at hc
    · rename_i z hz
      cases hc
      simp only [ieval, Option.some.injEq, Prod.mk.injEq] at h
      obtain ⟨rfl, rfl⟩ := h
      refine ⟨μ, w, C.hR, Ext.refl _ _ _, a.eval y, .inl ?_, C.op hz (by simp [ho, Op.operands])⟩
      simp [execOp, ho]
    · cases hc

theorem s_pick (C : Ctx P kn o G μ S S' w N E a) {c p q : Operand} (ho : o.op = .pick c p q) (hc : cop P o = some io) (h : ieval kn io E S = some (x, S')) : Out P G μ S w ((execOp a.eval o).run P w) x S' := by
  simp only [cop, ho] at hc
  split at hc
  · rename_i zc zp zq hzc hzp hzq
    cases hc
    simp only [ieval] at h
    have hv := C.op hzc (by simp [ho, Op.operands])
    split at h
    · rename_i heq
      cases h
      rw [heq] at hv
      simp only [VR] at hv
      refine ⟨μ, w, C.hR, Ext.refl _ _ _, a.eval p, .inl ?_, C.op hzp (by simp [ho, Op.operands])⟩
      simp [execOp, ho, hv, asBool]
    · rename_i heq
      cases h
      rw [heq] at hv
      simp only [VR] at hv
      refine ⟨μ, w, C.hR, Ext.refl _ _ _, a.eval q, .inl ?_, C.op hzq (by simp [ho, Op.operands])⟩
      simp [execOp, ho, hv, asBool]
    · cases h
  · cases hc

theorem s_alloc (C : Ctx P kn o G μ S S' w N E a) {e : TypeId} (ho : o.op = .alloc e) (hc : cop P o = some io) (h : ieval kn io E S = some (x, S')) : Out P G μ S w ((execOp a.eval o).run P w) x S' := by
  simp only [cop, ho] at hc
  split at hc
  · rename_i z hz
    cases hc
    simp only [ieval] at h
    obtain ⟨v, h1, rfl⟩ := vR_some h
    obtain ⟨ti, zv, hi, hzv, hzr⟩ := zeroOf_sound hz
    simp only [execOp, ho]
    exact Out.ofV (ealloc_sound C.hR hi hzv (hzr μ) h1 C.hf)
  · cases hc

theorem s_box (C : Ctx P kn o G μ S S' w N E a) {e : TypeId} {y : Operand} (ho : o.op = .box e y) (hc : cop P o = some io) (h : ieval kn io E S = some (x, S')) : Out P G μ S w ((execOp a.eval o).run P w) x S' := by
  simp only [cop, ho] at hc
  split at hc
  · rename_i z hz
    cases hc
    simp only [ieval] at h
    obtain ⟨v, h1, rfl⟩ := vR_some h
    simp only [execOp, ho]
    exact Out.ofV (ebox_sound C.hR e (C.op hz (by simp [ho, Op.operands])) h1 C.hf)
  · cases hc

theorem s_build (C : Ctx P kn o G μ S S' w N E a) {t : TypeId} {ps : Array (Nat × Operand)} (ho : o.op = .build t ps) (hc : cop P o = some io) (h : ieval kn io E S = some (x, S')) : Out P G μ S w ((execOp a.eval o).run P w) x S' := by
  simp only [cop, ho] at hc
  split at hc
  · rename_i d z hd hz
    split at hc
    · rename_i hk
      split at hc
      · rename_i qs hqs
        cases hc
        simp only [ieval] at h
        obtain ⟨v, h1, rfl⟩ := vR_some h
        simp only [execOp, ho]
        obtain ⟨e1, e2⟩ := parts_sound C.hR C.hE _ hqs (fun p hp => glAll_mem' C.hgl (by rw [ho]; simp only [Op.operands]; simp; exact ⟨p.1, by simpa using hp⟩))
        have hl : (ps.map fun (i, x) => (i, a.eval x)).toList = ps.toList.map fun p => (p.1, a.eval p.2) := by simp
        obtain ⟨rfl, y, hy⟩ := ebuild_sound (P := P) (S := S) (w := w) hd hk hz (vparts := ps.map fun (i, x) => (i, a.eval x)) (by rw [e1]; simp) (by
          intro i p q hp hq
          rw [hl] at hq
          exact e2 i p q hp hq) h1
        exact Out.ofP C.hR ⟨y, hy⟩
      · cases hc
    · cases hc
  · cases hc

theorem s_bslice (C : Ctx P kn o G μ S S' w N E a) {t : TypeId} {len : Nat} {ps : Array (Nat × Operand)} (ho : o.op = .buildSlice t len ps) (hc : cop P o = some io) (h : ieval kn io E S = some (x, S')) : Out P G μ S w ((execOp a.eval o).run P w) x S' := by
  simp only [cop, ho] at hc
  split at hc
  · rename_i e hd
    split at hc
    · rename_i z i hel
      obtain ⟨zz, zv, hi, hz, hzc, hsz, hzv, hzs⟩ := elemOf_spec hel
      subst hzc
      split at hc
      · rename_i hbig
        split at hc
        · rename_i qs hqs
          cases hc
          simp only [ieval] at h
          obtain ⟨v, h1, rfl⟩ := vR_some h
          simp only [execOp, ho]
          obtain ⟨e1, e2⟩ := parts_sound C.hR C.hE _ hqs (fun p hp => glAll_mem' C.hgl (by rw [ho]; simp only [Op.operands]; simp; exact ⟨p.1, by simpa using hp⟩))
          have hl : (ps.map fun (i, x) => (i, a.eval x)).toList = ps.toList.map fun p => (p.1, a.eval p.2) := by simp
          have hsz' : ∀ j, P.info? e = some j → j.size = zz.cells.length := fun j hj => by rw [hi] at hj; cases hj; exact hsz
          have hp' : ∀ (i : Nat) p q, (parts E qs)[i]? = some p → (ps.map fun (i, x) => (i, a.eval x)).toList[i]? = some q → p.1 = q.1 * zz.cells.length ∧ p.2.1 = zz.cells.length ∧ VR μ p.2.2 q.2 := by
            intro i p q hp hq
            rw [hl] at hq
            obtain ⟨b1, b2⟩ := e2 i p q hp hq
            simp only [Option.some.injEq, Prod.mk.injEq] at b1
            exact ⟨b1.1.symm, b1.2.symm, b2⟩
          have hlen' : (parts E qs).length = (ps.map fun (i, x) => (i, a.eval x)).size := by rw [e1]; simp
          generalize (ps.map fun (i, x) => (i, a.eval x)) = vp at hp' hlen' ⊢
          exact Out.ofV (ebslice_sound C.hR hd hz hsz' hbig hlen' hp' h1 C.hf)
        · cases hc
      · cases hc
    · cases hc
  · cases hc

theorem s_load (C : Ctx P kn o G μ S S' w N E a) {t : TypeId} {y : Operand} (ho : o.op = .load t y) (hc : cop P o = some io) (h : ieval kn io E S = some (x, S')) : Out P G μ S w ((execOp a.eval o).run P w) x S' := by
  simp only [cop, ho] at hc
  split at hc
  · rename_i sh z hs hz
    cases hc
    simp only [ieval] at h
    obtain ⟨v, h1, rfl⟩ := vR_some h
    simp only [execOp, ho]
    obtain ⟨rfl, y, hy⟩ := eload_sound hs C.hR (C.op hz (by simp [ho, Op.operands])) h1
    exact Out.ofP C.hR ⟨y, hy⟩
  · cases hc

theorem s_store (C : Ctx P kn o G μ S S' w N E a) {t : TypeId} {y u : Operand} (ho : o.op = .store t y u) (hc : cop P o = some io) (h : ieval kn io E S = some (x, S')) : Out P G μ S w ((execOp a.eval o).run P w) x S' := by
  simp only [cop, ho] at hc
  split at hc
  · rename_i i zy zu hi hzy hzu
    cases hc
    simp only [ieval] at h
    obtain ⟨v, h1, rfl⟩ := vR_some h
    simp only [execOp, ho]
    obtain ⟨w', h2, rfl, h3, h4⟩ := estore_sound hi C.hR (C.op hzy (by simp [ho, Op.operands])) (C.op hzu (by simp [ho, Op.operands])) h1
    exact Out.ofU h2 h3 h4
  · cases hc

theorem s_nilck (C : Ctx P kn o G μ S S' w N E a) {y : Operand} (ho : o.op = .nilCheck y) (hc : cop P o = some io) (h : ieval kn io E S = some (x, S')) : Out P G μ S w ((execOp a.eval o).run P w) x S' := by
  simp only [cop, ho] at hc
  split at hc
  · rename_i z hz
    cases hc
    simp only [ieval] at h
    obtain ⟨v, h1, rfl, rfl⟩ := vS_some h
    have hv := C.op hz (by simp [ho, Op.operands])
    unfold enilck at h1
    split at h1
    · rename_i heq
      cases h1
      refine ⟨μ, w, C.hR, Ext.refl _ _ _, a.eval y, .inl ?_, hv⟩
      rw [heq] at hv
      simp only [VR] at hv
      obtain ⟨L, hL, hv⟩ := hv
      simp [execOp, ho, hv]
    · rename_i heq
      cases h1
      refine ⟨μ, w, C.hR, Ext.refl _ _ _, a.eval y, .inl ?_, hv⟩
      rw [heq] at hv
      simp only [VR] at hv
      obtain ⟨L, c, hL, hv, _⟩ := hv
      simp [execOp, ho, hv]
    · rename_i heq
      cases h1
      refine ⟨μ, w, C.hR, Ext.refl _ _ _, a.eval y, .inl ?_, hv⟩
      rw [heq] at hv
      simp only [VR] at hv
      obtain ⟨L, hL, hv⟩ := hv
      simp [execOp, ho, hv]
    · rename_i heq
      cases h1
      refine ⟨μ, w, C.hR, Ext.refl _ _ _, a.eval y, .inl ?_, hv⟩
      rw [heq] at hv
      simp only [VR] at hv
      obtain ⟨fs, cs, hv, _⟩ := hv
      simp [execOp, ho, hv]
    · rename_i heq
      cases h1
      refine ⟨μ, w, C.hR, Ext.refl _ _ _, a.eval y, .inl ?_, hv⟩
      rw [heq] at hv
      simp only [VR] at hv
      obtain ⟨q, hv, _⟩ := hv
      simp [execOp, ho, hv]
    · cases h1
  · cases hc

theorem s_bin (C : Ctx P kn o G μ S S' w N E a) {op : BinOp} {t yt : TypeId} {y u : Operand} (ho : o.op = .binOp op t y u yt) (hc : cop P o = some io) (h : ieval kn io E S = some (x, S')) : Out P G μ S w ((execOp a.eval o).run P w) x S' := by
  simp only [cop, ho] at hc
  unfold cbin at hc
  split at hc
  · rename_i zy zu hzy hzu
    have hv1 := C.op hzy (by simp [ho, Op.operands])
    have hv2 := C.op hzu (by simp [ho, Op.operands])
    have num : ∀ {v : ANx}, ieval kn (.num op zy zu) E S = some (v, S') → Out P G μ S w ((execOp a.eval o).run P w) v S' := by
      intro v h
      simp only [ieval] at h
      obtain ⟨v, h1, rfl, rfl⟩ := vS_some h
      simp only [execOp, ho]
      exact Out.ofP C.hR (enum_sound t y u hv1 hv2 h1)
    have eqc : ∀ neg, op = (if neg then .neq else .eql) → ∀ {v : ANx} {d ks}, P.underlying t = some d → flat P 100 t = some ks → notNumStr d = true → (aggOf d && P.eqGuardType P.depth t) = false →
        ieval kn (.eqv neg (aggOf d) ks (isConst y || isConst u) zy zu) E S = some (v, S') → Out P G μ S w ((execOp a.eval o).run P w) v S' := by
      intro neg hopn v d ks hd hk hni hgd h
      simp only [ieval] at h
      obtain ⟨v, h1, rfl, rfl⟩ := vS_some h
      simp only [execOp, ho, hopn]
      exact Out.ofP C.hR (eeqv_sound hd hk hni hgd C.hR hv1 hv2 h1)
    split at hc
    · split at hc
      · cases hc; exact num h
      · cases hc; exact num h
      · rename_i d hn1 hn2 hd
        split at hc
        · rename_i ks hk
          split at hc
          · cases hc
          · rename_i hgd
            cases hc
            exact eqc false rfl hd hk (by cases d <;> first | rfl | exact absurd rfl (hn1 _) | exact absurd rfl hn2) (by simpa using hgd) h
        · cases hc
      · cases hc
    · split at hc
      · cases hc; exact num h
      · cases hc; exact num h
      · rename_i d hn1 hn2 hd
        split at hc
        · rename_i ks hk
          split at hc
          · cases hc
          · rename_i hgd
            cases hc
            exact eqc true rfl hd hk (by cases d <;> first | rfl | exact absurd rfl (hn1 _) | exact absurd rfl hn2) (by simpa using hgd) h
        · cases hc
      · cases hc
    · cases hc; exact num h
  · cases hc

theorem s_un (C : Ctx P kn o G μ S S' w N E a) {op : UnOp} {t : TypeId} {y : Operand} (ho : o.op = .unOp op t y) (hc : cop P o = some io) (h : ieval kn io E S = some (x, S')) : Out P G μ S w ((execOp a.eval o).run P w) x S' := by
  simp only [cop, ho] at hc
  split at hc
  · rename_i z hz
    cases hc
    simp only [ieval] at h
    obtain ⟨v, h1, rfl, rfl⟩ := vS_some h
    simp only [execOp, ho]
    exact Out.ofP C.hR (eun_sound (C.op hz (by simp [ho, Op.operands])) h1)
  · cases hc

theorem s_conv (C : Ctx P kn o G μ S S' w N E a) {src dst : TypeId} {y : Operand} (ho : o.op = .convert src dst y) (hc : cop P o = some io) (h : ieval kn io E S = some (x, S')) : Out P G μ S w ((execOp a.eval o).run P w) x S' := by
  simp only [cop, ho] at hc
  split at hc
  · rename_i ds dd z hds hdd hz
    have hv := C.op hz (by simp [ho, Op.operands])
    simp only [execOp, ho]
    split at hc
    · rename_i k
      cases hc
      simp only [ieval] at h
      split at h
      · rename_i k' n heq
        cases h
        rw [heq] at hv
        simp only [VR] at hv
        rw [hv]
        exact Out.ofP C.hR ⟨_, econv_int hds hdd k' n w, by simp [VR]⟩
      · cases h
    · split at hc
      · cases hc
        simp only [ieval] at h
        split at h
        · rename_i l heq
          cases h
          rw [heq] at hv
          have hv' := hv
          simp only [VR] at hv
          obtain ⟨s, hv, hs⟩ := hv
          rw [hv]
          exact Out.ofP C.hR ⟨_, econv_str hds hdd s w, by simp only [VR]; exact ⟨s, rfl, hs⟩⟩
        · cases h
      · split at hc
        · rename_i he
          cases hc
          simp only [ieval] at h
          obtain ⟨v, h1, rfl, rfl⟩ := vS_some h
          exact Out.ofP C.hR (eb2s_sound hds he hdd C.hR hv h1)
        · cases hc
      · cases hc
    · split at hc
      · split at hc
        · rename_i he
          cases hc
          simp only [ieval] at h
          obtain ⟨v, h1, rfl⟩ := vR_some h
          exact Out.ofV (es2b_sound hds hdd he C.hR hv h1 C.hf)
        · cases hc
      · cases hc
    · cases hc
  · cases hc

theorem s_mkif (C : Ctx P kn o G μ S S' w N E a) {t : TypeId} {y : Operand} (ho : o.op = .makeInterface t y) (hc : cop P o = some io) (h : ieval kn io E S = some (x, S')) : Out P G μ S w ((execOp a.eval o).run P w) x S' := by
  simp only [cop, ho] at hc
  split at hc
  · rename_i d z hd hz
    split at hc
    · cases hc
    · rename_i hni
      cases hc
      simp only [ieval, Option.some.injEq, Prod.mk.injEq] at h
      obtain ⟨rfl, rfl⟩ := h
      simp only [execOp, ho]
      exact Out.ofP C.hR ⟨_, run_mkif hd hni _, by simp only [VR]; exact ⟨_, rfl, C.op hz (by simp [ho, Op.operands])⟩⟩
  · cases hc

theorem s_mkfn (C : Ctx P kn o G μ S S' w N E a) {fn : Fn} {first cap : Array Operand} (ho : o.op = .makeFunc fn first cap) (hc : cop P o = some io) (h : ieval kn io E S = some (x, S')) : Out P G μ S w ((execOp a.eval o).run P w) x S' := by
  simp only [cop, ho] at hc
  split at hc
  · rename_i f z1 z2 h1 h2
    cases hc
    simp only [ieval, Option.some.injEq, Prod.mk.injEq] at h
    obtain ⟨rfl, rfl⟩ := h
    simp only [execOp, ho]
    refine Out.ofP C.hR ⟨.func (.func f) (first.map a.eval) (cap.map a.eval), rfl, ?_⟩
    simp only [VR]
    refine ⟨_, _, rfl, ?_, ?_⟩
    · rw [Array.toList_map]; exact opds_sound C.hR C.hE h1 (fun q hq => glAll_mem' C.hgl (by rw [ho]; simp [Op.operands]; left; simpa using hq))
    · rw [Array.toList_map]; exact opds_sound C.hR C.hE h2 (fun q hq => glAll_mem' C.hgl (by rw [ho]; simp [Op.operands]; right; simpa using hq))
  · cases hc

theorem s_mkmap (C : Ctx P kn o G μ S S' w N E a) {t : TypeId} {r : Option Operand} (ho : o.op = .makeMap t r) (hc : cop P o = some io) (h : ieval kn io E S = some (x, S')) : Out P G μ S w ((execOp a.eval o).run P w) x S' := by
  simp only [cop, ho] at hc
  split at hc
  · rename_i hd
    cases hc
    simp only [ieval] at h
    cases h
    simp only [execOp, ho]
    exact Out.ofV (emkmap_sound (P := P) hd (by simp) C.hR rfl C.hf)
  · cases hc

theorem s_mksl (C : Ctx P kn o G μ S S' w N E a) {t : TypeId} {l c : Operand} (ho : o.op = .makeSlice t l c) (hc : cop P o = some io) (h : ieval kn io E S = some (x, S')) : Out P G μ S w ((execOp a.eval o).run P w) x S' := by
  simp only [cop, ho] at hc
  split at hc
  · rename_i e z1 z2 hd h1 h2
    split at hc
    · rename_i z i hel
      obtain ⟨zz, zv, hi, hz, hzc, hsz, hzv, hzs⟩ := elemOf_spec hel
      subst hzc
      cases hc
      simp only [ieval] at h
      obtain ⟨v, h3, rfl⟩ := vR_some h
      simp only [execOp, ho]
      exact Out.ofV (emkslice_sound hd hz hi hsz C.hR (C.op h1 (by simp [ho, Op.operands])) (C.op h2 (by simp [ho, Op.operands])) h3 C.hf)
    · cases hc
  · cases hc

theorem s_slice (C : Ctx P kn o G μ S S' w N E a) {t : TypeId} {y : Operand} {lo hi mx : Option Operand} (ho : o.op = .slice t y lo hi mx) (hc : cop P o = some io) (h : ieval kn io E S = some (x, S')) : Out P G μ S w ((execOp a.eval o).run P w) x S' := by
  simp only [cop, ho] at hc
  split at hc
  · rename_i d z l h' hd hz hl hh
    have hv := C.op hz (by simp [ho, Op.operands])
    have hvl := C.oop hl (fun q hq => by simp [ho, Op.operands, hq])
    have hvh := C.oop hh (fun q hq => by simp [ho, Op.operands, hq])
    simp only [execOp, ho]
    split at hc
    · cases hc
      simp only [ieval] at h
      obtain ⟨v, h1, rfl, rfl⟩ := vS_some h
      exact Out.ofP C.hR (esliceS_sound hd hv hvl hvh h1)
    · split at hc
      · rename_i i hi
        cases hc
        simp only [ieval] at h
        cases hes : escheck i.size (opd E z) with
        | false => rw [hes] at h; cases h
        | true =>
          rw [hes, cond_true] at h
          obtain ⟨v, h1, rfl, rfl⟩ := vS_some h
          refine Out.ofP C.hR (eslice_sound hd hi hv hvl hvh ?_ h1)
          intro b o len cap esz ex he
          rw [he] at hes
          exact Nat.eq_of_beq_eq_true hes
      · cases hc
    · split at hc
      · rename_i i hi
        cases hc
        simp only [ieval] at h
        obtain ⟨v, h1, rfl, rfl⟩ := vS_some h
        exact Out.ofP C.hR (esliceA_sound hd hi C.hR hv hvl hvh h1)
      · cases hc
    · cases hc
  · rename_i e z l hz' m hd hz hl hh
    split at hc
    · rename_i i m' hii hm
      cases hc
      have hv := C.op hz (by simp [ho, Op.operands])
      have hvl := C.oop hl (fun q hq => by simp [ho, Op.operands, hq])
      have hvh := C.oop hh (fun q hq => by simp [ho, Op.operands, hq])
      have hvm := C.op hm (by simp [ho, Op.operands])
      simp only [ieval] at h
      cases hes : escheck i.size (opd E z) with
      | false => rw [hes] at h; cases h
      | true =>
        rw [hes, cond_true] at h
        obtain ⟨v, h1, rfl, rfl⟩ := vS_some h
        cases hi with
        | none => simp [coopd] at hh
        | some hi =>
          simp only [oopd, Option.map_some, OVR] at hvh
          simp only [execOp, ho]
          refine Out.ofP C.hR (eslice3_sound hd hii hv hvl hvh hvm ?_ h1)
          intro b o len cap esz ex he
          rw [he] at hes
          exact Nat.eq_of_beq_eq_true hes
    · cases hc
  · cases hc

theorem s_fa (C : Ctx P kn o G μ S S' w N E a) {t : TypeId} {y : Operand} {k : Nat} (ho : o.op = .fieldAddr t y k) (hc : cop P o = some io) (h : ieval kn io E S = some (x, S')) : Out P G μ S w ((execOp a.eval o).run P w) x S' := by
  simp only [cop, ho] at hc
  split at hc
  · rename_i fs z hd hz
    split at hc
    · rename_i f hf
      split at hc
      · rename_i i hi
        split at hc
        · cases hc
        · rename_i hsz
          cases hc
          simp only [ieval] at h
          obtain ⟨v, h1, rfl, rfl⟩ := vS_some h
          simp only [execOp, ho]
          exact Out.ofP C.hR (efa_sound hd hf hi hsz (C.op hz (by simp [ho, Op.operands])) h1)
      · cases hc
    · cases hc
  · cases hc

theorem s_fld (C : Ctx P kn o G μ S S' w N E a) {t : TypeId} {y : Operand} {k : Nat} (ho : o.op = .field t y k) (hc : cop P o = some io) (h : ieval kn io E S = some (x, S')) : Out P G μ S w ((execOp a.eval o).run P w) x S' := by
  simp only [cop, ho] at hc
  split at hc
  · rename_i fs z hd hz
    split at hc
    · rename_i f hf
      split at hc
      · rename_i sh hs
        cases hc
        simp only [ieval] at h
        obtain ⟨v, h1, rfl, rfl⟩ := vS_some h
        simp only [execOp, ho]
        exact Out.ofP C.hR (efld_sound hd hf hs (C.op hz (by simp [ho, Op.operands])) h1)
      · cases hc
    · cases hc
  · cases hc

theorem s_ia (C : Ctx P kn o G μ S S' w N E a) {t : TypeId} {y ix : Operand} (ho : o.op = .indexAddr t y ix) (hc : cop P o = some io) (h : ieval kn io E S = some (x, S')) : Out P G μ S w ((execOp a.eval o).run P w) x S' := by
  simp only [cop, ho] at hc
  split at hc
  · rename_i d z1 z2 hd h1 h2
    have hv1 := C.op h1 (by simp [ho, Op.operands])
    have hv2 := C.op h2 (by simp [ho, Op.operands])
    simp only [execOp, ho]
    split at hc
    · split at hc
      · rename_i i hi
        cases hc
        simp only [ieval] at h
        obtain ⟨v, h3, rfl, rfl⟩ := vS_some h
        exact Out.ofP C.hR (eias_sound hd hi hv1 hv2 h3)
      · cases hc
    · split at hc
      · rename_i i hi
        cases hc
        simp only [ieval] at h
        obtain ⟨v, h3, rfl, rfl⟩ := vS_some h
        exact Out.ofP C.hR (eiaa_sound hd hi hv1 hv2 h3)
      · cases hc
    · cases hc
  · cases hc

theorem s_ix (C : Ctx P kn o G μ S S' w N E a) {t : TypeId} {y ix : Operand} (ho : o.op = .index t y ix) (hc : cop P o = some io) (h : ieval kn io E S = some (x, S')) : Out P G μ S w ((execOp a.eval o).run P w) x S' := by
  simp only [cop, ho] at hc
  split at hc
  · rename_i d z1 z2 hd h1 h2
    have hv1 := C.op h1 (by simp [ho, Op.operands])
    have hv2 := C.op h2 (by simp [ho, Op.operands])
    simp only [execOp, ho]
    split at hc
    · cases hc
      simp only [ieval] at h
      obtain ⟨v, h3, rfl, rfl⟩ := vS_some h
      exact Out.ofP C.hR (eixs_sound hd hv1 hv2 h3)
    · split at hc
      · rename_i i sh hi hs
        cases hc
        simp only [ieval] at h
        obtain ⟨v, h3, rfl, rfl⟩ := vS_some h
        exact Out.ofP C.hR (eixa_sound hd hi hs hv1 hv2 h3)
      · cases hc
    · cases hc
  · cases hc

theorem s_look (C : Ctx P kn o G μ S S' w N E a) {t : TypeId} {y ix : Operand} {ok : Bool} (ho : o.op = .lookup t y ix ok) (hc : cop P o = some io) (h : ieval kn io E S = some (x, S')) : Out P G μ S w ((execOp a.eval o).run P w) x S' := by
  simp only [cop, ho] at hc
  split at hc
  · rename_i k e z1 z2 hd h1 h2
    split at hc
    · rename_i kd z hk hz
      cases hc
      simp only [ieval] at h
      obtain ⟨v, h3, rfl, rfl⟩ := vS_some h
      simp only [execOp, ho]
      exact Out.ofP C.hR (elook_sound hd hk hz C.hR (C.op h1 (by simp [ho, Op.operands])) (C.op h2 (by simp [ho, Op.operands])) h3)
    · cases hc
  · cases hc

theorem s_mup (C : Ctx P kn o G μ S S' w N E a) {t : TypeId} {m k y : Operand} (ho : o.op = .mapUpdate t m k y) (hc : cop P o = some io) (h : ieval kn io E S = some (x, S')) : Out P G μ S w ((execOp a.eval o).run P w) x S' := by
  have hm : ∀ q ∈ [m, k, y], q ∈ o.op.operands := by
    intro q hq
    simpa [ho, Op.operands] using hq
  all_goals
    simp only [cop, ho] at hc
    split at hc
    · rename_i kt et z1 z2 z3 hd h1 h2 h3
      split at hc
      · rename_i kd hk
        cases hc
        simp only [ieval] at h
        split at h
        · rename_i S1 heq
          cases h
          obtain ⟨w', e1, e2, e3⟩ := emapup_sound hd hk C.hR (C.op h1 (hm _ (by simp))) (C.op h2 (hm _ (by simp))) (C.op h3 (hm _ (by simp))) heq
          simp only [execOp, ho]; exact Out.ofU e1 e2 e3
        · cases h
      · cases hc
    · cases hc

theorem s_ins (C : Ctx P kn o G μ S S' w N E a) {t : TypeId} {m k y : Operand} (ho : o.op = .insert t m k y) (hc : cop P o = some io) (h : ieval kn io E S = some (x, S')) : Out P G μ S w ((execOp a.eval o).run P w) x S' := by
  have hm : ∀ q ∈ [m, k, y], q ∈ o.op.operands := by
    intro q hq
    simpa [ho, Op.operands] using hq
  all_goals
    simp only [cop, ho] at hc
    split at hc
    · rename_i kt et z1 z2 z3 hd h1 h2 h3
      split at hc
      · rename_i kd hk
        cases hc
        simp only [ieval] at h
        split at h
        · rename_i S1 heq
          cases h
          obtain ⟨w', e1, e2, e3⟩ := emapup_sound hd hk C.hR (C.op h1 (hm _ (by simp))) (C.op h2 (hm _ (by simp))) (C.op h3 (hm _ (by simp))) heq
          simp only [execOp, ho]; exact Out.ofU e1 e2 e3
        · cases h
      · cases hc
    · cases hc

theorem s_ext (C : Ctx P kn o G μ S S' w N E a) {y : Operand} {k : Nat} (ho : o.op = .extract y k) (hc : cop P o = some io) (h : ieval kn io E S = some (x, S')) : Out P G μ S w ((execOp a.eval o).run P w) x S' := by
  simp only [cop, ho] at hc
  split at hc
  · rename_i z hz
    cases hc
    simp only [ieval] at h
    obtain ⟨v, h1, rfl, rfl⟩ := vS_some h
    simp only [execOp, ho]
    exact Out.ofP C.hR (eext_sound (C.op hz (by simp [ho, Op.operands])) h1)
  · cases hc

theorem s_defer (C : Ctx P kn o G μ S S' w N E a) {c : Call} (ho : o.op = .defer c) (hc : cop P o = some io) (h : ieval kn io E S = some (x, S')) : Out P G μ S w ((execOp a.eval o).run P w) x S' := by
  simp only [cop, ho] at hc
  split at hc
  · rename_i f args hcal hag
    split at hc
    · rename_i z hz
      cases hc
      simp only [ieval] at h
      have hv := C.op hz (by simp [ho, Op.operands, Call.operands, hcal])
      have hvs := opds_sound C.hR C.hE hag (fun q hq => glAll_mem' C.hgl (by rw [ho]; simp [Op.operands, Call.operands, hcal]; right; simpa using hq))
      split at h
      · rename_i fg first cap heq
        cases hk : kn fg with
        | false => rw [hk] at h; cases h
        | true =>
          rw [hk, cond_true] at h
          cases h
          rw [heq] at hv
          simp only [VR] at hv
          obtain ⟨fs, cs, hfv, hv1, hv2⟩ := hv
          refine ⟨μ, w, C.hR, Ext.refl _ _ _, { target := .fn (.func fg) cs, args := fs ++ c.args.map a.eval }, .func fg, cs, ?_, rfl, ?_⟩
          · simp only [execOp, ho, resolve, hcal, hfv, Deferred.ofValue, Sem.run_bind, Sem.run_pure, Result.andThen_ok]
          · intro w'
            refine ⟨fs ++ c.args.map a.eval ++ cs, ?_, ?_⟩
            · simp only [invoke]; exact run_callFunc C.hkn hk _ w'
            · simp only [Array.toList_append, Array.toList_map]
              exact VRL.append (VRL.append hv1 hvs) hv2
      · cases h
    · cases hc
  · cases hc

theorem s_panic (C : Ctx P kn o G μ S S' w N E a) {y : Operand} (ho : o.op = .panic y) (hc : cop P o = some io) (h : ieval kn io E S = some (x, S')) : Out P G μ S w ((execOp a.eval o).run P w) x S' := by
  simp only [cop, ho] at hc
  split at hc
  · rename_i z hz
    cases hc
    simp only [ieval] at h
    have hv := C.op hz (by simp [ho, Op.operands])
    split at h
    · rename_i t v heq
      cases h
      rw [heq] at hv
      have hv' := hv
      simp only [VR] at hv
      obtain ⟨q, hv, _⟩ := hv
      refine ⟨μ, w, C.hR, Ext.refl _ _ _, t, q, ?_, by rw [← hv]; exact hv'⟩
      simp [execOp, ho, hv, Instr.panic]
    · cases h
  · cases hc

theorem s_tass (C : Ctx P kn o G μ S S' w N E a) {y : Operand} {xt t : TypeId} {ok : Bool} (ho : o.op = .typeAssert y xt t ok) (hc : cop P o = some io) (h : ieval kn io E S = some (x, S')) : Out P G μ S w ((execOp a.eval o).run P w) x S' := by
  simp only [cop, ho] at hc
  split at hc
  · rename_i d z z' hd hz hz'
    split at hc
    · cases hc
    · rename_i hni
      cases hc
      simp only [ieval] at h
      obtain ⟨v, h1, rfl, rfl⟩ := vS_some h
      simp only [execOp, ho]
      exact Out.ofP C.hR (etass_sound hd hni hz (C.op hz' (by simp [ho, Op.operands])) h1)
  · cases hc

theorem cop_sound (C : Ctx P kn o G μ S S' w N E a) (hc : cop P o = some io) (h : ieval kn io E S = some (x, S')) : Out P G μ S w ((execOp a.eval o).run P w) x S' := by
  cases ho : o.op with
  | move y => exact s_move C (.inl ho) hc h
  | assign y => exact s_move C (.inr ho) hc h
  | pick c p q => exact s_pick C ho hc h
  | alloc e => exact s_alloc C ho hc h
  | box e y => exact s_box C ho hc h
  | build t ps => exact s_build C ho hc h
  | buildSlice t len ps => exact s_bslice C ho hc h
  | load t y => exact s_load C ho hc h
  | store t y u => exact s_store C ho hc h
  | nilCheck y => exact s_nilck C ho hc h
  | binOp op t y u yt => exact s_bin C ho hc h
  | unOp op t y => exact s_un C ho hc h
  | convert s d y => exact s_conv C ho hc h
  | makeInterface t y => exact s_mkif C ho hc h
  | makeFunc fn first cap => exact s_mkfn C ho hc h
  | makeMap t r => exact s_mkmap C ho hc h
  | makeSlice t l c => exact s_mksl C ho hc h
  | slice t y lo hi mx => exact s_slice C ho hc h
  | fieldAddr t y k => exact s_fa C ho hc h
  | field t y k => exact s_fld C ho hc h
  | indexAddr t y ix => exact s_ia C ho hc h
  | index t y ix => exact s_ix C ho hc h
  | lookup t y ix ok => exact s_look C ho hc h
  | mapUpdate t m k y => exact s_mup C ho hc h
  | insert t m k y => exact s_ins C ho hc h
  | extract y k => exact s_ext C ho hc h
  | call c => exact ccall_sound C.hkn ho (by simpa only [cop, ho] using hc) C.hgl C.hR C.hE h C.hf
  | defer c => exact s_defer C ho hc h
  | panic y => exact s_panic C ho hc h
  | typeAssert y xt t ok => exact s_tass C ho hc h
  | _ => simp [cop, ho] at hc

end Go.Eng

/- Names of blocks are only ever taken, never handed back. -/
set_option linter.unusedSimpArgs false
set_option linter.unusedVariables false
namespace Go.Eng
variable {S S' : AH}

theorem n_alloc (S : AH) (k : ABlk) : S.n ≤ (S.alloc k).n := by simp [AH.alloc]
theorem n_row (S : AH) (l : List AV) (b : Bool) : S.n ≤ (S.row l b).n := n_alloc _ _
theorem n_set (S : AH) (b : Nat) (k : ABlk) : S.n ≤ (S.set b k).n := Nat.le_refl _
theorem n_kill (S : AH) (b : Nat) : S.n ≤ (S.kill b).n := Nat.le_refl _

theorem bif_some {α : Type} {c : Bool} {x : Option α} {y : α} (h : (bif c then x else none) = some y) : c = true ∧ x = some y := by
  cases c <;> simp at h ⊢; exact h

theorem n_ebox {x v : AV} (h : ebox x S = some (v, S')) : S.n ≤ S'.n := by
  unfold ebox at h
  obtain ⟨_, h⟩ := bif_some h
  cases h; exact n_row _ _ _

theorem n_ebuild {z : List AV} {ps : List (Nat × Nat × AV)} {v : AV} (h : ebuild z ps S = some (v, S')) : S.n ≤ S'.n := by
  unfold ebuild at h
  split at h <;> cases h; exact Nat.le_refl _

theorem n_ebslice {z : List AV} {n : Nat} {ps : List (Nat × Nat × AV)} {v : AV} (h : ebslice z n ps S = some (v, S')) : S.n ≤ S'.n := by
  unfold ebslice at h
  split at h
  · obtain ⟨_, h⟩ := bif_some h
    cases h; exact n_row _ _ _
  · cases h

theorem n_eload {sh : Option Nat} {x v : AV} (h : eload sh x S = some (v, S')) : S.n ≤ S'.n := by
  rw [eload_state h]; exact Nat.le_refl _

theorem n_estore {n : Nat} {x y v : AV} (h : estore n x y S = some (v, S')) : S.n ≤ S'.n := by
  unfold estore at h
  split at h
  · split at h
    · obtain ⟨_, h⟩ := bif_some h
      cases h; exact n_set _ _ _
    · cases h
  · cases h

theorem n_es2b {x v : AV} (h : es2b x S = some (v, S')) : S.n ≤ S'.n := by
  unfold es2b at h
  split at h
  · cases h; exact n_alloc _ _
  · cases h

theorem n_emkslice {z : List AV} {b : Nat} {l c v : AV} (h : emkslice z b l c S = some (v, S')) : S.n ≤ S'.n := by
  unfold emkslice at h
  split at h
  · obtain ⟨_, h⟩ := bif_some h
    cases h; exact n_row _ _ _
  · cases h

theorem n_eappC {e b k : Nat} {xs : List AV} {s v : AV} (h : eappC e b k xs s S = some (v, S')) : S.n ≤ S'.n := by
  unfold eappC at h
  obtain ⟨_, h⟩ := bif_some h
  split at h
  · obtain ⟨_, h⟩ := bif_some h
    cases h; exact n_row _ _ _
  · obtain ⟨_, h⟩ := bif_some h
    split at h
    · rename_i b o len cap esz' ex _ _ _ _ _ _ _ _
      generalize hc : Nat.ble _ cap = c at h
      cases c with
      | true => simp only [cond_true] at h; cases h; exact n_set _ _ _
      | false =>
        simp only [cond_false] at h
        obtain ⟨_, h⟩ := bif_some h
        split at h
        · cases h
          cases ex
          · exact Nat.le_trans (n_kill _ _) (n_alloc _ _)
          · exact n_alloc _ _
        · cases h
    · cases h
  · cases h

theorem n_eapp0 {s v : AV} (h : eapp0 s S = some (v, S')) : S.n ≤ S'.n := by
  unfold eapp0 at h
  split at h <;> cases h <;> exact Nat.le_refl _

theorem n_eapp {e b : Nat} {s x v : AV} (h : eapp e b s x S = some (v, S')) : S.n ≤ S'.n := by
  unfold eapp at h
  split at h
  · cases h
  · split at h
    · exact n_eapp0 h
    · split at h
      · cases h
      · exact n_eappC h

theorem n_eappz {z : List AV} {b : Nat} {s x v : AV} (h : eappz z b s x S = some (v, S')) : S.n ≤ S'.n := by
  unfold eappz at h
  split at h
  · split at h
    · exact n_eapp0 h
    · exact n_eappC (bif_some h).2
  · cases h

theorem n_edel {kd : KK} {x i : AV} (h : edel kd x i S = some S') : S.n ≤ S'.n := by
  unfold edel at h
  obtain ⟨_, h⟩ := bif_some h
  split at h
  · cases h; exact Nat.le_refl _
  · split at h
    · split at h
      · cases h
      · cases h; exact n_set _ _ _
      · cases h; exact n_set _ _ _
    · cases h
  · cases h

theorem n_ecopy {e : Nat} {d x v : AV} (h : ecopy e d x S = some (v, S')) : S.n ≤ S'.n := by
  unfold ecopy at h
  split at h
  · cases h
  · split at h
    · cases h; exact Nat.le_refl _
    · cases h; exact Nat.le_refl _
    · split at h
      · cases h; exact Nat.le_refl _
      · obtain ⟨_, h⟩ := bif_some h
        split at h
        · cases h
        · obtain ⟨_, h⟩ := bif_some h
          split at h
          · obtain ⟨_, h⟩ := bif_some h
            cases h; exact n_set _ _ _
          · cases h
    · cases h

theorem n_eclear {z : List AV} {x v : AV} (h : eclear z x S = some (v, S')) : S.n ≤ S'.n := by
  unfold eclear at h
  split at h
  · cases h; exact Nat.le_refl _
  · cases h; exact Nat.le_refl _
  · cases h; exact Nat.le_refl _
  · split at h
    · cases h; exact Nat.le_refl _
    · obtain ⟨_, h⟩ := bif_some h
      split at h
      · obtain ⟨_, h⟩ := bif_some h
        cases h; exact n_set _ _ _
      · cases h
  · cases h

theorem n_emapup {kd : KK} {x i y : AV} (h : emapup kd x i y S = some S') : S.n ≤ S'.n := by
  unfold emapup at h
  obtain ⟨_, h⟩ := bif_some h
  split at h
  · split at h
    · split at h
      · cases h
      · cases h; exact n_set _ _ _
      · cases h; exact n_set _ _ _
    · cases h
  · cases h

theorem n_vS {x : Option AV} {y : ANx} (h : vS x S = some (y, S')) : S.n ≤ S'.n := by
  unfold vS at h
  split at h <;> cases h; exact Nat.le_refl _

theorem n_vR {x : Option (AV × AH)} {y : ANx} (hx : ∀ v S1, x = some (v, S1) → S.n ≤ S1.n) (h : vR x = some (y, S')) : S.n ≤ S'.n := by
  unfold vR at h
  split at h
  · cases h; exact hx _ _ rfl
  · cases h

theorem n_ieval {kn : Nat → Bool} {o : IOp} {E : Env} {x : ANx} (h : ieval kn o E S = some (x, S')) : S.n ≤ S'.n := by
  cases o <;> simp only [ieval] at h
  case mv => cases h; exact Nat.le_refl _
  case pick => split at h <;> cases h <;> exact Nat.le_refl _
  case box => exact n_vR (fun _ _ => n_ebox) h
  case build => exact n_vR (fun _ _ => n_ebuild) h
  case bslice => exact n_vR (fun _ _ => n_ebslice) h
  case ld => exact n_vR (fun _ _ => n_eload) h
  case st => exact n_vR (fun _ _ => n_estore) h
  case nilck => exact n_vS h
  case num => exact n_vS h
  case eqv => exact n_vS h
  case un => exact n_vS h
  case cvi => split at h <;> cases h; exact Nat.le_refl _
  case cvs => split at h <;> cases h; exact Nat.le_refl _
  case s2b => exact n_vR (fun _ _ => n_es2b) h
  case b2s => exact n_vS h
  case mkif => cases h; exact Nat.le_refl _
  case mkfn => cases h; exact Nat.le_refl _
  case mkmap => cases h; exact n_alloc _ _
  case mksl => exact n_vR (fun _ _ => n_emkslice) h
  case slS => exact n_vS h
  case slL => exact n_vS (bif_some h).2
  case slA => exact n_vS h
  case sl3 => exact n_vS (bif_some h).2
  case clr => exact n_vR (fun _ _ => n_eclear) h
  case fa => exact n_vS h
  case fld => exact n_vS h
  case ias => exact n_vS h
  case iaa => exact n_vS h
  case ixa => exact n_vS h
  case ixs => exact n_vS h
  case look => exact n_vS h
  case mup => split at h <;> cases h; exact n_emapup (by assumption)
  case ins => split at h <;> cases h; exact n_emapup (by assumption)
  case ext => exact n_vS h
  case len => exact n_vS (bif_some h).2
  case cap => exact n_vS h
  case app => exact n_vR (fun _ _ => n_eapp) (bif_some h).2
  case appz => exact n_vR (fun _ _ => n_eappz) h
  case del => split at h <;> cases h; exact n_edel (by assumption)
  case cpy => exact n_vR (fun _ _ => n_ecopy) (bif_some h).2
  case mm => exact n_vS h
  case call => have h := (bif_some h).2; cases h; exact Nat.le_refl _
  case calld => split at h; · have h := (bif_some h).2; cases h; exact Nat.le_refl _
                · cases h
  case dfr => split at h; · have h := (bif_some h).2; cases h; exact Nat.le_refl _
              · cases h
  case recov => cases h; exact Nat.le_refl _
  case pan => split at h <;> cases h; exact Nat.le_refl _
  case tass => exact n_vS h
  case bad => cases h

def CallN (call : Nat → List AV → AH → Option (CR × AH)) : Prop := ∀ f args S r S', call f args S = some (r, S') → S.n ≤ S'.n

variable {kn : Nat → Bool} {call : Nat → List AV → AH → Option (CR × AH)}

theorem n_evOp (hn : CallN call) {o : OpI} {E E1 : Env} {D D1 : List AD} {p : Option AV} (h : evOp kn call o E D S = some (p, E1, D1, S')) : S.n ≤ S'.n := by
  unfold evOp at h
  split at h
  · cases h
  · cases h; exact Nat.le_refl _
  · split at h
    · cases h
    · rename_i x S1 hev
      have h1 := n_ieval hev
      split at h
      · cases h; exact h1
      · split at h
        · cases h
        · rename_i r S2 hc
          have h2 := hn _ _ _ _ _ hc
          split at h <;> cases h <;> exact Nat.le_trans h1 h2
      · cases h; exact h1
      · cases h
      · cases h; exact h1

theorem evOps_nil (E : Env) (D : List AD) (S : AH) : evOps kn call [] E D S = some (.normal, E, D, S) := rfl
theorem evOps_cons (o : OpI) (l : List OpI) (E : Env) (D : List AD) (S : AH) : evOps kn call (o :: l) E D S = (match evOp kn call o E D S with
      | none => none
      | some (p, E1, D1, S1) => match p with
        | none => evOps kn call l E1 D1 S1
        | some v => some (.pan v, E1, D1, S1)) := rfl

theorem n_evOps (hn : CallN call) : ∀ (l : List OpI) {E E1 : Env} {D D1 : List AD} {S S' : AH} {x : AX}, evOps kn call l E D S = some (x, E1, D1, S') → S.n ≤ S'.n
  | [], E, E1, D, D1, S, S', x, h => by rw [evOps_nil] at h; cases h; exact Nat.le_refl _
  | o :: l, E, E1, D, D1, S, S', x, h => by
    rw [evOps_cons] at h
    split at h
    · cases h
    · rename_i p E2 D2 S2 ho
      have h1 := n_evOp hn ho
      split at h
      · exact Nat.le_trans h1 (n_evOps hn l h)
      · cases h; exact h1

theorem n_attach (S : AH) (r : Nat) (x : Option ABlk) : (S.attach r x).n = S.n := by cases x <;> rfl

theorem n_dstep (hn : CallN call) {n0 : Nat} {i : DI} {d d1 : DS} (h : dstep kn call n0 i d = some d1) : d.S.n ≤ d1.S.n := by
  cases i with
  | q i o =>
    simp only [dstep] at h
    split at h
    · cases h
    · cases h; exact Nat.le_refl _
    · split at h
      · split at h
        · have h := (bif_some h).2; cases h; simp only [n_attach]; exact Nat.le_refl _
        · cases h
      · cases h
  | r i lo o =>
    simp only [dstep] at h
    split at h
    · cases h
    · cases h; exact Nat.le_refl _
    · split at h
      · cases h
      · split at h
        · split at h
          · have h := (bif_some h).2; cases h; exact Nat.le_refl _
          · cases h
        · cases h
  | e i o =>
    simp only [dstep] at h
    split at h
    · cases h
    · rename_i p E1 D1 S1 ho
      split at h
      · cases h; exact n_evOp hn ho
      · cases h
  | m i o l =>
    simp only [dstep] at h
    split at h
    · cases h
    · split at h
      · split at h
        · cases h
        · cases h; simp only [n_attach]; exact Nat.le_refl _
      · cases h
  | n i o j =>
    simp only [dstep] at h
    cases h; exact Nat.le_refl _
  | k i o j =>
    simp only [dstep] at h
    split at h
    · cases h
    · cases h; exact Nat.le_refl _
    · split at h
      · cases h
      · split at h
        · split at h
          · cases h; exact Nat.le_refl _
          · cases h
        · cases h

theorem evDraw_nil (n0 : Nat) (d : DS) : evDraw kn call n0 [] d = some d := rfl
theorem evDraw_cons (n0 : Nat) (i : DI) (l : List DI) (d : DS) : evDraw kn call n0 (i :: l) d = (match dstep kn call n0 i d with
    | none => none
    | some d1 => evDraw kn call n0 l d1) := rfl

theorem n_evDraw (hn : CallN call) {n0 : Nat} : ∀ (l : List DI) {d d1 : DS}, evDraw kn call n0 l d = some d1 → d.S.n ≤ d1.S.n
  | [], d, d1, h => by rw [evDraw_nil] at h; cases h; exact Nat.le_refl _
  | i :: l, d, d1, h => by
    rw [evDraw_cons] at h
    split at h
    · cases h
    · rename_i d2 h2
      exact Nat.le_trans (n_dstep hn h2) (n_evDraw hn l h)

end Go.Eng

/- The evaluator's code does what the model's does: operations in a row. -/
set_option linter.unusedSimpArgs false
set_option linter.unusedVariables false
namespace Go.Eng
variable {P : Program} {G : Nat} {μ : Mp} {S S' : AH} {w : World}

def DR (P : Program) (μ : Mp) (d : AD) (e : Deferred) : Prop :=
  ∃ fv cap, e.target = .fn fv cap ∧ ∀ w', ∃ vs, (invoke e.target e.args).run P w' = .ok (.enter d.f vs) w' ∧ VRL μ d.args vs.toList

def DRL (P : Program) (μ : Mp) : List AD → List Deferred → Prop
  | [], [] => True
  | d :: l, e :: l' => DR P μ d e ∧ DRL P μ l l'
  | _, _ => False

theorem DR.mono {μ μ' : Mp} (h : μ.le μ') {d : AD} {e : Deferred} (hd : DR P μ d e) : DR P μ' d e := by
  obtain ⟨fv, cap, h1, h2⟩ := hd
  exact ⟨fv, cap, h1, fun w' => let ⟨vs, a, b⟩ := h2 w'; ⟨vs, a, b.mono h⟩⟩

theorem DRL.mono {μ μ' : Mp} (h : μ.le μ') : ∀ {l : List AD} {l' : List Deferred}, DRL P μ l l' → DRL P μ' l l'
  | [], [], _ => trivial
  | _ :: _, _ :: _, hd => ⟨hd.1.mono h, DRL.mono h hd.2⟩
  | [], _ :: _, hd => hd.elim
  | _ :: _, [], hd => hd.elim

def XR (μ : Mp) (x : AX) (e : Exit) : Prop :=
  match x with
  | .normal => e = .normal
  | .exit id => e = .exit id
  | .ret => e = .ret
  | .pan v => ∃ t v', e = .panic [{ v := .iface t v', recovered := false }] ∧ VR μ v (.iface t v')

def CRR (μ : Mp) (r : CR) (e : Ending) : Prop :=
  match r with
  | .ret v => ∃ v', e = .returned v' ∧ VR μ v v'
  | .pan v => ∃ t v', e = .panicked [{ v := .iface t v', recovered := false }] ∧ VR μ v (.iface t v')

def CallPost (G : Nat) (μ : Mp) (S : AH) (w : World) (r : CR) (S' : AH) (e : Ending) (w' : World) : Prop :=
  ∃ μ', Rel G μ' S' w' ∧ Ext μ S w μ' S' w' ∧ CRR μ' r e

def CallOK (P : Program) (G : Nat) (call : Nat → List AV → AH → Option (CR × AH)) : Prop :=
  ∀ f args S r S', call f args S = some (r, S') → S.n ≤ S'.n ∧ ∀ μ w (vs : Array Value), Rel G μ S w → VRL μ args vs.toList → Fresh μ S S' → Calls P f vs w (CallPost G μ S w r S')

/-- what is to be shown of each place to which an evaluation leads -/
def PostR (P : Program) (G N : Nat) (μ : Mp) (S : AH) (w : World) (x : AX) (E' : Env) (D' : List AD) (S' : AH) (Q : Exit → Act → World → Prop) : Prop :=
  ∀ μ' a' w' e, Rel G μ' S' w' → Ext μ S w μ' S' w' → EnvR N μ' E' a' → DRL P μ' D' a'.defers → XR μ' x e → Q e a' w'

theorem EnvR.put {N : Nat} {E : Env} {a : Act} (h : EnvR N μ E a) {d : Option Nat} (hd : dstOk N d = true) {v : AV} {v' : Value} (hv : VR μ v v') : EnvR N μ (putO E d v) (a.put d v') := by
  cases d with
  | none => exact h
  | some i =>
    have hi : i < N := Nat.le_of_ble_eq_true hd
    have hsz := h.size
    refine ⟨by simp [Act.put]; exact hsz, ?_⟩
    intro j x hx
    simp only [putO] at hx
    rw [Tr.get_put] at hx
    simp only [Act.put]
    split at hx
    · rename_i e
      subst e
      cases hx
      have : i < a.tmps.size := by omega
      simpa [Array.getD_eq_getD_getElem?, Array.getElem?_setIfInBounds, this] using hv
    · rename_i e
      have := h.get j x hx
      simpa [Array.getD_eq_getD_getElem?, Array.getElem?_setIfInBounds_ne e] using this

theorem DRL.put {l : List AD} {a : Act} (h : DRL P μ l a.defers) (d : Option Nat) (v : Value) : DRL P μ l (a.put d v).defers := by
  cases d <;> exact h

/-! a guard -/

theorem want_sound {N : Nat} {ops : Array Oper} {o : Oper} {g : Option (Nat × Bool)} (hg : cguard ops o.guard = some g) {E : Env} {a : Act} (hE : EnvR N μ E a) (hN : ∀ t b, g = some (t, b) → t < N) {r : Bool} (h : want g E = some r) : Region.wanted o (yielded ops a.tmps) = r := by
  unfold Region.wanted
  cases hgu : o.guard with
  | none =>
    rw [hgu] at hg
    simp only [cguard, Option.some.injEq] at hg
    subst hg
    simp only [want, Option.some.injEq] at h
    subst h; rfl
  | some jb =>
    obtain ⟨j, b⟩ := jb
    rw [hgu] at hg
    simp only [cguard] at hg
    split at hg
    · rename_i t ht
      simp only [Option.some.injEq] at hg
      subst hg
      have htN := hN t b rfl
      simp only [want] at h
      have hlt : t < a.tmps.size := Nat.lt_of_lt_of_le htN hE.size
      split at h
      · rename_i c hc
        have hv := hE.get t _ hc
        simp only [VR] at hv
        have hv' : a.tmps[t]? = some (.bool c) := by
          rw [Array.getD_eq_getD_getElem?] at hv
          simp [hlt] at hv ⊢
          exact hv
        simp only [Option.some.injEq] at h
        subst h
        simp only [yielded, ht, Option.bind_some, hv']
        cases b <;> cases c <;> rfl
      · rename_i hc
        have hv := hE.get t _ hc
        simp only [VR] at hv
        obtain ⟨vs, hv, _⟩ := hv
        have hv' : a.tmps[t]? = some (.tuple vs) := by
          rw [Array.getD_eq_getD_getElem?] at hv
          simp [hlt] at hv ⊢
          exact hv
        simp only [Option.some.injEq] at h
        subst h
        simp [yielded, ht, hv']
      · cases h
    · cases hg

/-- one operation that is run -/
theorem evOp_upon {kn : Nat → Bool} (hkn : Known P kn) {call : Nat → List AV → AH → Option (CR × AH)} (hcall : CallOK P G call) {o : Oper} {io : IOp} (hc : cop P o = some io) (hgl : glAll G o = true) {N : Nat} (hdst : dstOk N o.dst = true) {E E1 : Env} {D D1 : List AD} {a : Act} {p : Option AV}
    (hR : Rel G μ S w) (hE : EnvR N μ E a) (hD : DRL P μ D a.defers) {g : Option (Nat × Bool)} (hw : want g E = some true) (h : evOp kn call ⟨o.dst, g, io⟩ E D S = some (p, E1, D1, S')) (hf : Fresh μ S S')
    {K : Act → World → Prop} {Q : Exit → Act → World → Prop}
    (hK : p = none → ∀ μ' a' w', Rel G μ' S' w' → Ext μ S w μ' S' w' → EnvR N μ' E1 a' → DRL P μ' D1 a'.defers → (∃ v v', E1 = putO E o.dst v ∧ VR μ' v v' ∧ a'.tmps = (a.put o.dst v').tmps) → K a' w')
    (hQ : ∀ v, p = some v → E1 = E ∧ D1 = D → ∀ μ' w' t v', Rel G μ' S' w' → Ext μ S w μ' S' w' → VR μ' v (.iface t v') → Q (.panic [{ v := .iface t v', recovered := false }]) a w') :
    o.upon P a K Q ((execOp a.eval o).run P w) ∧ (∀ w', (execOp a.eval o).run P w ≠ .ok .recover w') := by
  unfold evOp at h
  simp only [hw] at h
  split at h
  · cases h
  · rename_i x S1 hev
    split at h
    · -- a value
      rename_i v
      cases h
      obtain ⟨μ', w', h1, h2, v', h3, h4⟩ := cop_sound ⟨hkn, hgl, hR, hE, hf⟩ hc hev
      rcases h3 with h3 | ⟨h3, h5⟩
      · rw [h3]
        exact ⟨hK rfl μ' _ w' h1 h2 ((hE.mono h2.mono).put hdst h4) ((hD.mono h2.mono).put _ _) ⟨_, _, rfl, h4, rfl⟩, fun w' => by simp⟩
      · rw [h3]
        subst h5
        exact ⟨hK rfl μ' _ w' h1 h2 ((hE.mono h2.mono).put hdst h4) ((hD.mono h2.mono).put _ _) ⟨_, _, rfl, h4, rfl⟩, fun w' => by simp⟩
    · -- a call
      rename_i f args
      split at h
      · cases h
      · rename_i r S2 hcl
        obtain ⟨hn2, hcalls⟩ := hcall f args S1 r S2 hcl
        have hS' : S' = S2 := by
          split at h <;> cases h <;> rfl
        subst hS'
        obtain ⟨μ1, w1, h1, h2, vs, h3, h4⟩ := cop_sound (S' := S1) ⟨hkn, hgl, hR, hE, hf.left hn2⟩ hc hev
        have hcc := hcalls μ1 w1 vs h1 h4 (hf.right h2)
        rw [h3]
        refine ⟨?_, fun w' => by simp⟩
        rw [Oper.upon_enter]
        refine hcc.mono ?_
        rintro e w2 ⟨μ2, k1, k2, k3⟩
        have hext := h2.trans k2
        cases r with
        | ret v =>
          obtain ⟨v', rfl, hv⟩ := k3
          cases h
          exact hK rfl μ2 _ w2 k1 hext ((hE.mono hext.mono).put hdst hv) ((hD.mono hext.mono).put _ _) ⟨_, _, rfl, hv, rfl⟩
        | pan v =>
          obtain ⟨t, v', rfl, hv⟩ := k3
          cases h
          exact hQ v rfl ⟨rfl, rfl⟩ μ2 w2 t v' k1 hext hv
    · -- a deferred call
      rename_i f args
      cases h
      obtain ⟨μ', w', h1, h2, d, fv, cap, h3, h4, h5⟩ := cop_sound ⟨hkn, hgl, hR, hE, hf⟩ hc hev
      rw [h3]
      refine ⟨?_, fun w' => by simp⟩
      rw [Oper.upon_defer]
      have hEa : EnvR N μ' E { a with defers := d :: a.defers } := ⟨(hE.mono h2.mono).size, (hE.mono h2.mono).get⟩
      have hu : VR μ' (.tup []) undef := by simp only [VR]; exact ⟨#[], rfl, by simp [VRL]⟩
      refine hK rfl μ' _ w' h1 h2 (hEa.put hdst (v := .tup []) (v' := undef) hu) ?_ ⟨_, undef, rfl, hu, by cases o.dst <;> rfl⟩
      have : DRL P μ' (⟨f, args⟩ :: D) (d :: a.defers) := ⟨⟨fv, cap, h4, h5⟩, hD.mono h2.mono⟩
      exact DRL.put (a := { a with defers := d :: a.defers }) this _ _
    · cases h
    · -- a panic
      rename_i v
      cases h
      obtain ⟨μ', w', h1, h2, t, v', h3, h4⟩ := cop_sound ⟨hkn, hgl, hR, hE, hf⟩ hc hev
      rw [h3]
      exact ⟨hQ v rfl ⟨rfl, rfl⟩ μ' w' t v' h1 h2 h4, fun w' => by simp⟩

end Go.Eng

/- An operation looks at its operands alone. -/
set_option linter.unusedSimpArgs false
set_option linter.unusedVariables false
namespace Go.Eng
variable {E E' : Env} {S : AH} {kn : Nat → Bool}


theorem opds_congr : ∀ (l : List Opd), (∀ x ∈ l, opd E x = opd E' x) → opds E l = opds E' l
  | [], _ => rfl
  | x :: l, h => by
    rw [opds_cons, opds_cons, h x List.mem_cons_self, opds_congr l fun y hy => h y (List.mem_cons_of_mem _ hy)]

theorem parts_congr : ∀ (l : List (Nat × Nat × Opd)), (∀ x ∈ l.map (fun p => p.2.2), opd E x = opd E' x) → parts E l = parts E' l
  | [], _ => rfl
  | p :: l, h => by
    rw [parts_cons, parts_cons, h p.2.2 (by simp), parts_congr l fun y hy => h y (by simp at hy ⊢; exact .inr hy)]

theorem oopd_congr (x : Option Opd) (h : ∀ y ∈ x.toList, opd E y = opd E' y) : oopd E x = oopd E' x := by
  cases x with
  | none => rfl
  | some y => simp only [oopd, h y (by simp)]

theorem ieval_congr {o : IOp} (h : ∀ x ∈ o.ol, opd E x = opd E' x) : ieval kn o E S = ieval kn o E' S := by
  cases o
  case build z ps => simp only [ieval, parts_congr ps h]
  case bslice z n ps => simp only [ieval, parts_congr ps h]
  case mkfn f a b =>
    simp only [IOp.ol] at h
    simp only [ieval, opds_congr a fun x hx => h x (by simp [hx]), opds_congr b fun x hx => h x (by simp [hx])]
  case slS x lo hi =>
    simp only [IOp.ol] at h
    simp only [ieval, h x (by simp), oopd_congr lo fun y hy => h y (by simp [hy]), oopd_congr hi fun y hy => h y (List.mem_cons_of_mem _ (List.mem_append_right _ hy))]
  case slL e x lo hi =>
    simp only [IOp.ol] at h
    simp only [ieval, h x (by simp), oopd_congr lo fun y hy => h y (by simp [hy]), oopd_congr hi fun y hy => h y (List.mem_cons_of_mem _ (List.mem_append_right _ hy))]
  case slA n e x lo hi =>
    simp only [IOp.ol] at h
    simp only [ieval, h x (by simp), oopd_congr lo fun y hy => h y (by simp [hy]), oopd_congr hi fun y hy => h y (List.mem_cons_of_mem _ (List.mem_append_right _ hy))]
  case sl3 e x lo hi mx =>
    simp only [IOp.ol] at h
    simp only [ieval, h x (by simp), h hi (by simp), h mx (by simp), oopd_congr lo fun y hy => h y (by simp [hy])]
  case mm m x ys =>
    simp only [IOp.ol] at h
    simp only [ieval, h x (by simp), opds_congr ys fun y hy => h y (by simp [hy])]
  case call f l =>
    simp only [IOp.ol] at h
    simp only [ieval, opds_congr l h]
  case calld x l =>
    simp only [IOp.ol] at h
    simp only [ieval, h x (by simp), opds_congr l fun y hy => h y (by simp [hy])]
  case dfr x l =>
    simp only [IOp.ol] at h
    simp only [ieval, h x (by simp), opds_congr l fun y hy => h y (by simp [hy])]
  all_goals
    simp only [IOp.ol, List.mem_cons, List.not_mem_nil, or_false, forall_eq_or_imp, forall_eq] at h
    simp only [ieval, h]

theorem opd_congr {ts : List Nat} (h : ∀ t ∈ ts, E.get t = E'.get t) {x : Opd} (hx : ∀ t, x = .t t → t ∈ ts) : opd E x = opd E' x := by
  cases x with
  | t i => simp only [opd, h i (hx i rfl)]
  | c v => rfl

theorem ts_ol {o : OpI} (h : ∀ t ∈ o.ts, E.get t = E'.get t) : ∀ x ∈ o.op.ol, opd E x = opd E' x := by
  intro x hx
  refine opd_congr h ?_
  rintro t rfl
  exact List.mem_append_left _ (List.mem_filterMap.2 ⟨_, hx, rfl⟩)

theorem ts_want {o : OpI} (h : ∀ t ∈ o.ts, E.get t = E'.get t) : want o.guard E = want o.guard E' := by
  unfold OpI.ts at h
  cases hg : o.guard with
  | none => rfl
  | some g =>
    obtain ⟨t, b⟩ := g
    rw [hg] at h
    simp only [want, h t (by simp)]

theorem ieval_ts {o : OpI} (h : ∀ t ∈ o.ts, E.get t = E'.get t) (S : AH) : ieval kn o.op E S = ieval kn o.op E' S := ieval_congr (ts_ol h)

theorem evOp_ts {call : Nat → List AV → AH → Option (CR × AH)} {o : OpI} {E1 : Env} {D D1 : List AD} {S1 : AH} (h : ∀ t ∈ o.ts, E.get t = E'.get t) (he : evOp kn call o E D S = some (none, E1, D1, S1)) :
    ∃ v, E1 = putO E o.dst v ∧ evOp kn call o E' D S = some (none, putO E' o.dst v, D1, S1) := by
  unfold evOp at he ⊢
  rw [← ts_want h, ← ieval_ts h]
  cases hw : want o.guard E with
  | none => rw [hw] at he; cases he
  | some b =>
    rw [hw] at he
    cases b with
    | false => cases he; exact ⟨_, rfl, rfl⟩
    | true =>
      dsimp only at he ⊢
      cases hi : ieval kn o.op E S with
      | none => rw [hi] at he; cases he
      | some r =>
        obtain ⟨x, S2⟩ := r
        rw [hi] at he
        dsimp only at he ⊢
        cases x with
        | val v => cases he; exact ⟨_, rfl, rfl⟩
        | enter f args =>
          dsimp only at he ⊢
          cases hc : call f args S2 with
          | none => rw [hc] at he; cases he
          | some r =>
            obtain ⟨r, S3⟩ := r
            rw [hc] at he
            cases r with
            | ret v => cases he; exact ⟨_, rfl, rfl⟩
            | pan v => cases he
        | dfr f args => cases he; exact ⟨_, rfl, rfl⟩
        | recov => cases he
        | pan v => cases he

theorem ieval_read {o : IOp} (hc : cls o = 1) {v : AV} {S1 : AH} (h : ieval kn o E S = some (.val v, S1)) : S1 = S := by
  have vs : ∀ x : Option AV, vS x S = some (.val v, S1) → S1 = S := by
    intro x hx
    unfold vS at hx
    split at hx <;> cases hx; rfl
  cases o <;> simp only [cls] at hc <;> first | omega | skip
  all_goals simp only [ieval] at h
  case ld =>
    unfold vR at h
    split at h
    · rename_i he
      cases h
      exact eload_state he
    · cases h
  case eqv => exact vs _ h
  case b2s => exact vs _ h
  case slA => exact vs _ h
  case look => exact vs _ h
  case len => exact vs _ (bif_some h).2

/-- the part of an environment that is looked at -/
noncomputable def restr (E : Env) (ts : List Nat) : Env := ts.foldr (fun t e => e.put (E.get t) t) .e

theorem restr_get (E : Env) : ∀ (ts : List Nat) (t : Nat), (restr E ts).get t = if t ∈ ts then E.get t else none
  | [], t => by simp [restr, Tr.get_e]
  | s :: ts, t => by
    have ih := restr_get E ts t
    simp only [restr] at ih
    simp only [restr, List.foldr_cons, List.mem_cons]
    rw [Tr.get_put]
    by_cases e : s = t
    · subst e; simp
    · rw [if_neg e, ih]
      have : ¬ t = s := fun h => e h.symm
      simp [this]

/-- two values that are spelled alike are the same -/
theorem same1_eq (x y : AV) : AV.same1 x y = true → x = y := by
  fun_cases AV.same1 x y <;> intro h <;> simp_all [ieq_eq, seq_eq]

theorem sameL_eq : ∀ (l m : List AV), sameL l m = true → l = m
  | [], [], _ => rfl
  | [], _ :: _, h => by cases h
  | _ :: _, [], h => by cases h
  | x :: l, y :: m, h => by
    have h : (bif AV.same1 x y then sameL l m else false) = true := h
    cases hx : AV.same1 x y with
    | false => rw [hx] at h; cases h
    | true => rw [hx] at h; rw [same1_eq x y hx, sameL_eq l m h]

theorem same_eq (x y : AV) (h : AV.same x y = true) : x = y := by
  unfold AV.same at h
  split at h
  · rw [sameL_eq _ _ h]
  · rename_i t b o t' b' o'
    cases h1 : Nat.beq t t' with
    | false => rw [h1] at h; cases h
    | true =>
      cases h2 : Nat.beq b b' with
      | false => rw [h1, h2] at h; cases h
      | true =>
        rw [h1, h2] at h
        rw [Nat.eq_of_beq_eq_true h1, Nat.eq_of_beq_eq_true h2, Nat.eq_of_beq_eq_true h]
  · exact same1_eq _ _ h

end Go.Eng

/- A statement whose order Go leaves open: what is checked of it. -/
set_option linter.unusedSimpArgs false
set_option linter.unusedVariables false
namespace Go.Eng

/-! what 'before' tells -/

theorem after_bit (acc : Array Nat) (j : Nat) : ∀ (l : List Edge) (s : Nat),
    (l.foldl (fun s e => if Region.binds .any e then s ||| 2 ^ e.on ||| acc.getD e.on 0 else s) s).testBit j = true →
      s.testBit j = true ∨ ∃ e ∈ l, Region.binds .any e = true ∧ (e.on = j ∨ (acc.getD e.on 0).testBit j = true)
  | [], s, h => .inl h
  | e :: l, s, h => by
    rw [List.foldl_cons] at h
    rcases after_bit acc j l _ h with h | ⟨e', h1, h2⟩
    · split at h
      · rename_i hb
        rw [Nat.testBit_or, Nat.testBit_or, Bool.or_eq_true, Bool.or_eq_true] at h
        rcases h with (h | h) | h
        · exact .inl h
        · rw [Nat.testBit_two_pow] at h
          exact .inr ⟨e, List.mem_cons_self, hb, .inl (by simpa using h)⟩
        · exact .inr ⟨e, List.mem_cons_self, hb, .inr h⟩
      · exact .inl h
    · exact .inr ⟨e', List.mem_cons_of_mem _ h1, h2⟩

def BitOk (ops : Array Oper) (acc : Array Nat) : Prop :=
  ∀ i j, (acc.getD i 0).testBit j = true → ∃ o, ops[i]? = some o ∧ ∃ e ∈ o.after, Region.binds .any e = true ∧ (e.on = j ∨ (e.on < i ∧ (acc.getD e.on 0).testBit j = true))

theorem bitOk_push {ops : Array Oper} {acc : Array Nat} (h : BitOk ops acc) {o : Oper} (ho : ops[acc.size]? = some o) :
    BitOk ops (acc.push (o.after.foldl (fun s e => if Region.binds .any e then s ||| 2 ^ e.on ||| acc.getD e.on 0 else s) 0)) := by
  generalize hx : (o.after.foldl (fun s e => if Region.binds .any e then s ||| 2 ^ e.on ||| acc.getD e.on 0 else s) 0) = x
  have old : ∀ i, i < acc.size → (acc.push x).getD i 0 = acc.getD i 0 := by
    intro i hi
    simp [Array.getD_eq_getD_getElem?, Array.getElem?_push, Nat.ne_of_lt hi]
  intro i j hb
  rcases Nat.lt_trichotomy i acc.size with hi | hi | hi
  · rw [old i hi] at hb
    obtain ⟨o', h1, e, h2, h3, h4⟩ := h i j hb
    refine ⟨o', h1, e, h2, h3, ?_⟩
    rcases h4 with h4 | h4
    · exact .inl h4
    · exact .inr ⟨h4.1, by rw [old _ (by omega)]; exact h4.2⟩
  · subst hi
    have e1 : (acc.push x).getD acc.size 0 = x := by simp [Array.getD_eq_getD_getElem?]
    rw [e1, ← hx, ← Array.foldl_toList] at hb
    rcases after_bit acc j _ _ hb with h0 | ⟨e, h2, h3, h4⟩
    · simp at h0
    · refine ⟨o, ho, e, Array.mem_toList_iff.1 h2, h3, ?_⟩
      rcases h4 with h4 | h4
      · exact .inl h4
      · have hlt : e.on < acc.size := by
          by_cases hlt : e.on < acc.size
          · exact hlt
          · simp [Array.getD_eq_getD_getElem?, Array.getElem?_eq_none (Nat.le_of_not_lt hlt)] at h4
        exact .inr ⟨hlt, by rw [old _ hlt]; exact h4⟩
  · simp [Array.getD_eq_getD_getElem?, Array.getElem?_push, Nat.ne_of_gt hi, Array.getElem?_eq_none (Nat.le_of_lt hi)] at hb

theorem before_ok (ops : Array Oper) : BitOk ops (Region.before ops) := by
  unfold Region.before
  rw [← Array.foldl_toList]
  have key : ∀ (l : List Oper) (acc : Array Nat), BitOk ops acc → (∀ k, l[k]? = ops[acc.size + k]?) →
      BitOk ops (l.foldl (fun acc o => acc.push (o.after.foldl (fun s e => if Region.binds .any e then s ||| 2 ^ e.on ||| acc.getD e.on 0 else s) 0)) acc) := by
    intro l
    induction l with
    | nil => intro acc h _; exact h
    | cons o l ih =>
      intro acc h hl
      rw [List.foldl_cons]
      refine ih _ (bitOk_push h (by simpa using (hl 0).symm)) ?_
      intro k
      have := hl (k + 1)
      simp only [List.getElem?_cons_succ] at this
      rw [this]
      simp [Nat.add_assoc, Nat.add_comm 1 k]
  refine key _ _ ?_ ?_
  · intro i j h
    simp [Array.getD_eq_getD_getElem?] at h
  · intro k
    simp

/-- whatever has come up, and whatever may come up next, has behind it all that it waits for -/
theorem dep_listed {ops : Array Oper} {listed : Array Bool}
    (down : ∀ i o, ops[i]? = some o → listed.getD i false = true → ∀ e ∈ o.after, Region.binds .any e = true → listed.getD e.on false = true) :
    ∀ (i : Nat), (∀ o, ops[i]? = some o → ∀ e ∈ o.after, Region.binds .any e = true → listed.getD e.on false = true) →
      ∀ j, ((Region.before ops).getD i 0).testBit j = true → listed.getD j false = true := by
  intro i
  induction i using Nat.strongRecOn with
  | _ i ih =>
    intro hi j hj
    obtain ⟨o, h1, e, h2, h3, h4⟩ := before_ok ops i j hj
    have he := hi o h1 e h2 h3
    rcases h4 with h4 | ⟨h4, h5⟩
    · rw [← h4]; exact he
    · exact ih e.on h4 (fun o' ho' => down e.on o' ho' he) j h5

/-! what is checked -/

structure DrawOk (ops : Array Oper) (its : List DI) : Prop where
  len : its.length = ops.size
  back : ∀ (i : Nat) o, ops[i]? = some o → ∀ e ∈ o.after, Region.binds .any e = true → e.on < i
  all : ∀ i, i < ops.size → ∃ (c : Nat) (d : DI), its[c]? = some d ∧ d.i = i
  idx : ∀ (c d : Nat) (x y : DI), its[c]? = some x → its[d]? = some y → x.i = y.i → c = d
  dst : ∀ (c d : Nat) (x y : DI) t, its[c]? = some x → its[d]? = some y → x.o.dst = some t → y.o.dst = some t → c = d
  look : ∀ (c d : Nat) (x y : DI) t, its[c]? = some x → its[d]? = some y → t ∈ x.o.ts → y.o.dst = some t → c = d ∨ (d < c ∧ ((Region.before ops).getD x.i 0).testBit y.i = true) ∨ (c < d ∧ ((Region.before ops).getD y.i 0).testBit x.i = true)
  eff : ∀ (c d : Nat) (x y : DI), its[c]? = some x → its[d]? = some y → x.isE = true → d < c → ((Region.before ops).getD x.i 0).testBit y.i = true
  mlit : ∀ (c i : Nat) o l, its[c]? = some (.m i o l) → (∃ t, o.dst = some t ∧ ∀ p ∈ l, ∃ kd k v, insK p.2 = some (kd, t, k, v)) ∧ (l.map (·.1)).Nodup
  nof : ∀ (c i j : Nat) o, its[c]? = some (.n i o j) → ∃ (c' : Nat) (o' : OpI) (l : List (Nat × OpI)) (p : Nat × OpI), its[c']? = some (.m j o' l) ∧ p ∈ l ∧ p.1 = i
  mwr : ∀ (c i : Nat) o l (d : Nat) (y : DI) p t, its[c]? = some (.m i o l) → its[d]? = some y → p ∈ l → t ∈ kvts p.2 → y.o.dst = some t → d < c
  mins : ∀ (c i : Nat) o l (d : Nat) (y : DI) p, its[c]? = some (.m i o l) → its[d]? = some y → p ∈ l → y.i = p.1 → c < d ∧ ∃ i' o', y = .n i' o' i
  meff : ∀ (c i : Nat) o l (d : Nat) (y : DI) p, its[c]? = some (.m i o l) → its[d]? = some y → p ∈ l → y.isE = true → c < d → ∃ (d' : Nat) (z : DI), d' < d ∧ its[d']? = some z ∧ z.i = p.1
  lk : ∀ (d i j : Nat) o, its[d]? = some (.k i o j) → cls o.op = 1 ∧ ((Region.before ops).getD i 0).testBit j = true ∧ ∃ (c : Nat) (o' : OpI) (l : List (Nat × OpI)), its[c]? = some (.m j o' l) ∧ c < d ∧ (∀ p ∈ l, ((Region.before ops).getD i 0).testBit p.1 = true) ∧
    ∀ (e : Nat) (z : DI), its[e]? = some z → z.isE = true → c ≤ e → ¬ e < d
  rd : ∀ (c i lo : Nat) o, its[c]? = some (.r i lo o) → cls o.op = 1 ∧ lo ≤ (its.take c).countP DI.isE ∧
    ∀ (d : Nat) y, its[d]? = some y → y.isE = true → (its.take d).countP DI.isE < lo → ((Region.before ops).getD i 0).testBit y.i = true

theorem drawOk_spec {ops : Array Oper} {its : List DI} (h : drawOk ops (Region.before ops) its = true) : DrawOk ops its := by
  simp only [drawOk, Bool.and_eq_true] at h
  obtain ⟨⟨⟨⟨⟨h1, h2⟩, h3⟩, h5⟩, h6⟩, h4⟩ := h
  have pair : ∀ (c d : Nat) (x y : DI), its[c]? = some x → its[d]? = some y → _ := fun c d x y hc hd =>
    List.all_eq_true.1 (List.all_eq_true.1 h4 (x, c) (List.mem_zipIdx_iff_getElem?.2 hc)) (y, d) (List.mem_zipIdx_iff_getElem?.2 hd)
  have single : ∀ (c : Nat) (x : DI), its[c]? = some x → itemOk its x = true := fun c x hc => List.all_eq_true.1 h5 x (List.mem_of_getElem? hc)
  have lit : ∀ (c d : Nat) (x y : DI), its[c]? = some x → its[d]? = some y → litOk its x y c d = true := fun c d x y hc hd => by
    have := pair c d x y hc hd
    simp only [Bool.and_eq_true] at this
    exact this.1.2
  refine ⟨by simpa using h1, ?_, ?_, ?_, ?_, ?_, ?_, ?_, ?_, ?_, ?_, ?_, ?_, ?_⟩
  · intro i o ho e he hb
    have hlt : i < ops.size := (Array.getElem?_eq_some_iff.1 ho).1
    have := List.all_eq_true.1 h2 i (List.mem_range.2 hlt)
    simp only [ho, Option.map_some, Option.getD_some, Array.all_eq_true_iff_forall_mem] at this
    have := this e he
    simpa [hb] using this
  · intro i hi
    have := List.all_eq_true.1 h3 i (List.mem_range.2 hi)
    obtain ⟨d, hd, hdi⟩ := List.any_eq_true.1 this
    obtain ⟨c, hc⟩ := List.getElem?_of_mem hd
    exact ⟨c, d, hc, by simpa using hdi⟩
  · intro c d x y hc hd e
    have := pair c d x y hc hd
    simp only [Bool.and_eq_true] at this
    have := this.1.1.1.1
    simp [e] at this
    exact this
  · intro c d x y t hc hd e1 e2
    have := pair c d x y hc hd
    simp only [Bool.and_eq_true] at this
    have := this.1.1.1.1
    simp [e1, e2] at this
    exact this
  · intro c d x y t hc hd ht e
    have := pair c d x y hc hd
    simp only [Bool.and_eq_true] at this
    have := this.1.1.1.2
    simp [e, ht] at this
    simp only [Array.getD_eq_getD_getElem?]
    rcases this with (h | h) | h
    · exact .inl h
    · exact .inr (.inl h)
    · exact .inr (.inr h)
  · intro c d x y hc hd he hlt
    have := pair c d x y hc hd
    simp only [Bool.and_eq_true] at this
    have := this.1.1.2
    have hb : Nat.blt d c = true := by simpa [Nat.blt_eq] using hlt
    rw [he, hb] at this
    simpa using this
  · intro c i o l hc
    have := single c _ hc
    simp only [itemOk, Bool.and_eq_true, decide_eq_true_eq] at this
    refine ⟨?_, this.2⟩
    have h6 := this.1
    split at h6
    · rename_i t ht
      refine ⟨t, ht, fun p hp => ?_⟩
      have h7 := List.all_eq_true.1 h6 p hp
      split at h7
      · rename_i kd t' k v hk
        have : t' = t := by simpa using h7
        subst this
        exact ⟨kd, k, v, hk⟩
      · cases h7
    · cases h6
  · intro c i j o hc
    have := single c _ hc
    simp only [itemOk] at this
    obtain ⟨z, hz, hz2⟩ := List.any_eq_true.1 this
    obtain ⟨c', hc'⟩ := List.getElem?_of_mem hz
    split at hz2
    · rename_i i' o' l
      simp only [Bool.and_eq_true, beq_iff_eq, List.any_eq_true] at hz2
      obtain ⟨rfl, p, hp, hpi⟩ := hz2
      exact ⟨c', o', l, p, hc', hp, hpi⟩
    · cases hz2
  · intro c i o l d y p t hc hd hp ht e
    have := lit c d _ y hc hd
    simp only [litOk] at this
    have := List.all_eq_true.1 this p hp
    simp only [Bool.and_eq_true] at this
    have h6 := List.all_eq_true.1 this.1.1 t ht
    rw [e] at h6
    simpa [Nat.blt_eq] using h6
  · intro c i o l d y p hc hd hp e
    have := lit c d _ y hc hd
    simp only [litOk] at this
    have := List.all_eq_true.1 this p hp
    simp only [Bool.and_eq_true] at this
    have h6 := this.1.2
    have e' : (y.i == p.1) = true := by simpa using e
    rw [e'] at h6
    simp only [Bool.not_true, Bool.false_or] at h6
    split at h6
    · rename_i a1 a2 a3 a4
      simp only [Bool.and_eq_true, beq_iff_eq, Nat.blt_eq] at h6
      obtain ⟨h8, h7⟩ := h6
      subst h8
      exact ⟨h7, _, _, rfl⟩
    · cases h6
  · intro c i o l d y p hc hd hp he hlt
    have := lit c d _ y hc hd
    simp only [litOk] at this
    have := List.all_eq_true.1 this p hp
    simp only [Bool.and_eq_true] at this
    have h6 := this.2
    have hb : Nat.blt c d = true := by simpa [Nat.blt_eq] using hlt
    rw [he, hb] at h6
    simp only [Bool.and_self, Bool.not_true, Bool.false_or] at h6
    obtain ⟨z, hz, hz2⟩ := List.any_eq_true.1 h6
    obtain ⟨d', hd'⟩ := List.getElem?_of_mem hz
    rw [List.getElem?_take] at hd'
    split at hd'
    · exact ⟨d', z, by assumption, hd', by simpa using hz2⟩
    · cases hd'
  · intro d i j o hd
    have := List.all_eq_true.1 h6 (_, d) (List.mem_zipIdx_iff_getElem?.2 hd)
    simp only [lookOk, Bool.and_eq_true, beq_iff_eq] at this
    obtain ⟨⟨g1, g2⟩, g3⟩ := this
    refine ⟨g1, g2, ?_⟩
    obtain ⟨⟨z, c⟩, hz, hz2⟩ := List.any_eq_true.1 g3
    have hc := List.mem_zipIdx_iff_getElem?.1 hz
    simp only at hc hz2
    split at hz2
    · rename_i i' o' l
      simp only [Bool.and_eq_true, beq_iff_eq, Nat.blt_eq] at hz2
      obtain ⟨⟨⟨rfl, k1⟩, k2⟩, k3⟩ := hz2
      refine ⟨c, o', l, hc, k1, fun p hp => List.all_eq_true.1 k2 p hp, fun e z hz hzE hle hlt => ?_⟩
      have := List.all_eq_true.1 k3 (z, e) (List.mem_zipIdx_iff_getElem?.2 hz)
      have b1 : Nat.ble c e = true := Nat.ble_eq_true_of_le hle
      have b2 : Nat.blt e d = true := by simpa [Nat.blt_eq] using hlt
      simp only at this
      rw [hzE, b1, b2] at this
      cases this
    · cases hz2
  · intro c i lo o hc
    have hself := pair c c _ _ hc hc
    simp only [Bool.and_eq_true] at hself
    have hs := hself.2
    refine ⟨by simpa using hs.1.1, Nat.le_of_ble_eq_true hs.1.2, ?_⟩
    intro d y hd hy hlt
    have := pair c d _ y hc hd
    simp only [Bool.and_eq_true] at this
    have := this.2.2
    rw [hy] at this
    simp only [Bool.not_true, Bool.false_or, Bool.or_eq_true] at this
    rcases this with h | h
    · have := Nat.le_of_ble_eq_true h; omega
    · exact h

/-! what the evaluator did -/

inductive SR (kn : Nat → Bool) (call : Nat → List AV → AH → Option (CR × AH)) (n0 : Nat) : DI → DS → AV → Option ABlk → DS → Prop where
  | skip {d : DI} {s : DS} (h : want d.o.guard s.E = some false) (hk : d.isE = false) (hm : ∀ i o l, d ≠ .m i o l) : SR kn call n0 d s (.tup []) none { s with E := putO s.E d.o.dst (.tup []) }
  | q {i : Nat} {o : OpI} {s : DS} {v : AV} {S1 : AH} (h : want o.guard s.E = some true) (hv : ieval kn o.op s.E ⟨.e, n0 + i⟩ = some (.val v, S1)) (hn : S1.n ≤ n0 + i + 1) :
    SR kn call n0 (.q i o) s v (S1.h.get (n0 + i)) { s with E := putO s.E o.dst v, S := s.S.attach (n0 + i) (S1.h.get (n0 + i)) }
  | r {i lo : Nat} {o : OpI} {s : DS} {v : AV} (h : want o.guard s.E = some true) (hv : ∀ T ∈ s.hs.take (s.k - lo + 1), ∃ T1, ieval kn o.op s.E T = some (.val v, T1)) :
    SR kn call n0 (.r i lo o) s v none { s with E := putO s.E o.dst v }
  | m {i : Nat} {o : OpI} {l : List (Nat × OpI)} {s : DS} {es : List AEnt} (hg : o.guard = none) (hop : o.op = .mkmap) (h : mins s.E l [] = some es) :
    SR kn call n0 (.m i o l) s (.mp (n0 + i)) (some (.map es 0)) { s with E := putO s.E o.dst (.mp (n0 + i)), S := s.S.attach (n0 + i) (some (.map es 0)) }
  | k {i j : Nat} {o : OpI} {s : DS} {v : AV} {blk : ABlk} {S1 : AH} (h : want o.guard s.E = some true) (hb : s.S.h.get (n0 + j) = some blk) (hv : ieval kn o.op s.E ⟨Tr.e.put (some blk) (n0 + j), n0 + j + 1⟩ = some (.val v, S1)) :
    SR kn call n0 (.k i o j) s v none { s with E := putO s.E o.dst v }
  | n {i j : Nat} {o : OpI} {s : DS} : SR kn call n0 (.n i o j) s .u none { s with E := putO s.E o.dst .u }
  | e {i : Nat} {o : OpI} {s : DS} {v : AV} {D1 : List AD} {S1 : AH} (h : evOp kn call o s.E s.D s.S = some (none, putO s.E o.dst v, D1, S1)) :
    SR kn call n0 (.e i o) s v none ⟨putO s.E o.dst v, D1, S1, S1 :: s.hs, s.k + 1⟩

variable {kn : Nat → Bool} {call : Nat → List AV → AH → Option (CR × AH)} {n0 : Nat}

theorem sameIn_spec {o : IOp} {E : Env} {v : AV} : ∀ {l : List AH}, sameIn kn o E v l = true → ∀ T ∈ l, ∃ T1, ieval kn o E T = some (.val v, T1)
  | [], _ => fun T hT => by cases hT
  | S :: l, h => by
    have h : (match ieval kn o E S with
      | some (.val u, _) => bif AV.same v u then sameIn kn o E v l else false
      | _ => false) = true := h
    intro T hT
    split at h
    · rename_i u S1 hu
      cases hs : AV.same v u with
      | false => rw [hs] at h; cases h
      | true =>
        rw [hs] at h
        rcases List.mem_cons.1 hT with rfl | hT
        · exact ⟨S1, by rw [same_eq v u hs]; exact hu⟩
        · exact sameIn_spec h T hT
    · cases h

theorem dstep_sr {d : DI} {s s' : DS} (h : dstep kn call n0 d s = some s') : ∃ v A, SR kn call n0 d s v A s' := by
  cases d with
  | q i o =>
    simp only [dstep] at h
    split at h
    · cases h
    · rename_i hw; cases h; exact ⟨_, _, .skip (d := .q i o) hw rfl (by intros; simp)⟩
    · rename_i hw
      split at h
      · rename_i x S1 hv
        split at h
        · obtain ⟨hn, h⟩ := bif_some h
          cases h
          exact ⟨_, _, .q hw hv (Nat.le_of_ble_eq_true hn)⟩
        · cases h
      · cases h
  | r i lo o =>
    simp only [dstep] at h
    split at h
    · cases h
    · rename_i hw; cases h; exact ⟨_, _, .skip (d := .r i lo o) hw rfl (by intros; simp)⟩
    · rename_i hw
      split at h
      · cases h
      · rename_i S0 hs hhs
        split at h
        · rename_i x S1 hv
          split at h
          · obtain ⟨hn, h⟩ := bif_some h
            cases h
            refine ⟨_, _, .r hw ?_⟩
            rw [hhs, List.take_succ_cons]
            intro T hT
            rcases List.mem_cons.1 hT with rfl | hT
            · exact ⟨_, hv⟩
            · exact sameIn_spec hn T hT
          · cases h
        · cases h
  | e i o =>
    simp only [dstep] at h
    split at h
    · cases h
    · rename_i p E1 D1 S1 ho
      split at h
      · cases h
        obtain ⟨v, rfl, _⟩ := evOp_ts (E' := s.E) (fun _ _ => rfl) ho
        exact ⟨_, _, .e ho⟩
      · cases h
  | m i o l =>
    simp only [dstep] at h
    split at h
    · cases h
    · rename_i hg
      split at h
      · rename_i hop
        split at h
        · cases h
        · rename_i es hes
          cases h
          exact ⟨_, _, .m hg hop hes⟩
      · cases h
  | n i o j =>
    simp only [dstep] at h
    cases h
    exact ⟨_, _, .n⟩
  | k i o j =>
    simp only [dstep] at h
    split at h
    · cases h
    · rename_i hw; cases h; exact ⟨_, _, .skip (d := .k i o j) hw rfl (by intros; simp)⟩
    · rename_i hw
      split at h
      · cases h
      · rename_i blk hblk
        split at h
        · rename_i x S1 hv
          split at h
          · cases h
            exact ⟨_, _, .k hw hblk hv⟩
          · cases h
        · cases h

/-- what the entries of a literal are -/
theorem mins_spec {E : Env} : ∀ (l : List (Nat × OpI)) {acc es : List AEnt}, mins E l acc = some es → es.length = acc.length + l.length ∧ (∀ r, r < acc.length → es[r]? = acc[r]?) ∧
    ∀ r p, l[r]? = some p → ∃ kd t k v e, insK p.2 = some (kd, t, k, v) ∧ es[acc.length + r]? = some e ∧ e = ⟨opd E k, opd E v, 0⟩ ∧ keyDesc kd e.key = true ∧
      ∀ q e', q < acc.length + r → es[q]? = some e' → keyEq e.key e'.key = some false
  | [], acc, es, h => by
    have h : some acc = some es := h
    cases h
    exact ⟨by simp, fun _ _ => rfl, fun r p hp => by simp at hp⟩
  | p :: l, acc, es, h => by
    have h : (match insK p.2 with
      | none => none
      | some (kd, _, k, v) => bif keyDesc kd (opd E k) then (match mfind (opd E k) acc 0 with
        | some none => mins E l (acc ++ [⟨opd E k, opd E v, 0⟩])
        | _ => none) else none) = some es := h
    split at h
    · cases h
    · rename_i kd t k v hk
      obtain ⟨hkd, h⟩ := bif_some h
      split at h
      · rename_i hn
        obtain ⟨h1, h2, h3⟩ := mins_spec l h
        simp only [List.length_append, List.length_singleton] at h1 h2 h3
        refine ⟨by simp only [List.length_cons]; omega, ?_, ?_⟩
        · intro r hr
          rw [h2 r (by omega), List.getElem?_append_left hr]
        · intro r p' hp'
          cases r with
          | zero =>
            simp only [List.getElem?_cons_zero, Option.some.injEq] at hp'
            subst hp'
            refine ⟨kd, t, k, v, ⟨opd E k, opd E v, 0⟩, hk, ?_, rfl, hkd, ?_⟩
            · rw [Nat.add_zero, h2 acc.length (by omega)]; simp
            · intro q e' hq he'
              rw [Nat.add_zero] at hq
              rw [h2 q (by omega), List.getElem?_append_left hq] at he'
              exact mfind_spec hn e' (List.mem_of_getElem? he')
          | succ r =>
            simp only [List.getElem?_cons_succ] at hp'
            obtain ⟨kd', t', k', v', e, g1, g2, g3, g5, g6⟩ := h3 r p' hp'
            have e1 : acc.length + 1 + r = acc.length + (r + 1) := by omega
            rw [e1] at g2 g6
            exact ⟨kd', t', k', v', e, g1, g2, g3, g5, g6⟩
      · cases h

theorem trace : ∀ (l : List DI) (s s' : DS), evDraw kn call n0 l s = some s' → ∃ (T : Nat → DS) (V : Nat → AV) (A : Nat → Option ABlk),
    T 0 = s ∧ T l.length = s' ∧ ∀ c d, l[c]? = some d → SR kn call n0 d (T c) (V c) (A c) (T (c + 1))
  | [], s, s', h => by
    rw [evDraw_nil] at h
    cases h
    exact ⟨fun _ => s, fun _ => .u, fun _ => none, rfl, rfl, fun c d hd => by simp at hd⟩
  | i :: l, s, s', h => by
    rw [evDraw_cons] at h
    split at h
    · cases h
    · rename_i s1 h1
      obtain ⟨v, A0, hsr⟩ := dstep_sr h1
      obtain ⟨T, V, A, hT, hT', hs⟩ := trace l s1 s' h
      refine ⟨fun c => match c with | 0 => s | c + 1 => T c, fun c => match c with | 0 => v | c + 1 => V c, fun c => match c with | 0 => A0 | c + 1 => A c, rfl, hT', ?_⟩
      intro c d hd
      cases c with
      | zero =>
        simp at hd
        subst hd
        show SR kn call n0 i s v A0 (T 0)
        rw [hT]; exact hsr
      | succ c =>
        simp at hd
        exact hs c d hd

end Go.Eng

/- A statement whose order Go leaves open: whatever the order, it comes to what the evaluator told. -/
set_option linter.unusedSimpArgs false
set_option linter.unusedVariables false
namespace Go.Eng
variable {P : Program} {G N : Nat} {μ μ0 : Mp} {S S0 : AH} {w w0 : World}

theorem cio_spec {ops : Array Oper} {o : Oper} {x : OpI} (h : x = cio P G N ops o) :
    (x.op = .bad ∧ x.guard = none) ∨ ∃ io g, cop P o = some io ∧ cguard ops o.guard = some g ∧ glAll G o = true ∧ dstOk N o.dst = true ∧ (∀ t b, g = some (t, b) → t < N) ∧ x = ⟨o.dst, g, io⟩ := by
  unfold cio at h
  split at h
  · rename_i io g h1 h2
    split at h
    · rename_i hc
      simp only [Bool.and_eq_true] at hc
      refine .inr ⟨io, g, h1, h2, hc.1.1, hc.1.2, ?_, h⟩
      rintro t b rfl
      exact Nat.le_of_ble_eq_true hc.2
    · subst h; exact .inl ⟨rfl, rfl⟩
  · subst h; exact .inl ⟨rfl, rfl⟩

theorem Rel.attach (h : Rel G μ S w) {r : Nat} {L : Loc} {k : ABlk} (hr : r < S.n) (hL : μ r = some L) (hb : BR μ L k w)
    (hd : ∀ b k' L', S.h.get b = some k' → μ b = some L' → b ≠ r → L'.blk ≠ L.blk) : Rel G μ (S.attach r (some k)) w := by
  have hget : ∀ b k', (S.attach r (some k)).h.get b = some k' → (b = r ∧ k' = k) ∨ (b ≠ r ∧ S.h.get b = some k') := by
    intro b k' hb'
    simp only [AH.attach] at hb'
    rw [Tr.get_put] at hb'
    split at hb'
    · rename_i e1; cases hb'; exact .inl ⟨e1.symm, rfl⟩
    · rename_i e1; exact .inr ⟨fun e' => e1 e'.symm, hb'⟩
  refine ⟨?_, ?_, ?_, h.glob⟩
  · intro b k' hb'
    rcases hget b k' hb' with ⟨rfl, rfl⟩ | ⟨hne, hb'⟩
    · exact ⟨L, hL, hb⟩
    · exact h.blk b k' hb'
  · intro b1 b2 k1 k2 L1 L2 h1 h2 hL1 hL2 he
    rcases hget b1 k1 h1 with ⟨e1, _⟩ | ⟨n1, g1⟩ <;> rcases hget b2 k2 h2 with ⟨e2, _⟩ | ⟨n2, g2⟩
    · rw [e1, e2]
    · subst e1; rw [hL] at hL1; cases hL1
      exact absurd he.symm (hd b2 k2 L2 g2 hL2 n2)
    · subst e2; rw [hL] at hL2; cases hL2
      exact absurd he (hd b1 k1 L1 g1 hL1 n1)
    · exact h.inj b1 b2 k1 k2 L1 L2 g1 g2 hL1 hL2 he
  · intro b k' hb'
    rcases hget b k' hb' with ⟨rfl, rfl⟩ | ⟨hne, hb'⟩
    · exact hr
    · exact h.lt b k' hb'

theorem Ext.attach (h : Ext μ0 S0 w0 μ S w) {r : Nat} {L : Loc} {k : ABlk} (hL : μ r = some L) (hs : w0.heap.size ≤ L.blk) : Ext μ0 S0 w0 μ (S.attach r (some k)) w := by
  refine ⟨h.mono, h.dom, h.n, h.os, h.tape, h.output, h.size, h.frame, ?_⟩
  intro b k' L' hb' hL'
  simp only [AH.attach] at hb'
  rw [Tr.get_put] at hb'
  split at hb'
  · rename_i e1; subst e1
    rw [hL] at hL'; cases hL'; exact .inl hs
  · exact h.img b k' L' hb' hL'

theorem count_lt {p q : Nat → Bool} (hle : ∀ j, q j = true → p j = true) {i : Nat} (hp : p i = true) (hq : q i = false) : ∀ (l : List Nat), i ∈ l → l.countP q < l.countP p
  | [], h => by cases h
  | j :: l, h => by
    have hall : l.countP q ≤ l.countP p := List.countP_mono_left fun x _ => hle x
    rw [List.countP_cons, List.countP_cons]
    by_cases e1 : i = j
    · subst e1
      rw [hp, hq]
      simp only [Bool.false_eq_true, if_false, if_true]
      omega
    · have ih := count_lt hle hp hq l ((List.mem_cons.1 h).resolve_left e1)
      have : (if q j = true then 1 else 0) ≤ (if p j = true then 1 else 0) := by
        cases hqj : q j with
        | false => simp
        | true => simp [hle j hqj]
      omega

theorem put_getD (a : Act) {d : Option Nat} (hd : dstOk N d = true) (hN : N ≤ a.tmps.size) (v : Value) (t : Nat) :
    (a.put d v).tmps.getD t undef = if d = some t then v else a.tmps.getD t undef := by
  cases d with
  | none => simp [Act.put]
  | some i =>
    have hi : i < N := Nat.le_of_ble_eq_true hd
    have hlt : i < a.tmps.size := by omega
    simp only [Act.put, Option.some.injEq]
    split
    · rename_i e1; subst e1
      simp [Array.getD_eq_getD_getElem?, hlt]
    · rename_i e1
      simp [Array.getD_eq_getD_getElem?, Array.getElem?_setIfInBounds_ne e1]

theorem put_size (a : Act) (d : Option Nat) (v : Value) : (a.put d v).tmps.size = a.tmps.size := by
  cases d <;> simp [Act.put]

theorem put_defers (a : Act) (d : Option Nat) (v : Value) : (a.put d v).defers = a.defers := by
  cases d <;> rfl

theorem listed_set {listed : Array Bool} {i : Nat} (hi : i < listed.size) (j : Nat) : (listed.setIfInBounds i true).getD j false = true ↔ (j = i ∨ listed.getD j false = true) := by
  by_cases e1 : i = j
  · subst e1; simp [Array.getD_eq_getD_getElem?, hi]
  · rw [getD_set_ne false e1]
    exact ⟨.inr, fun h => h.resolve_left fun e2 => e1 e2.symm⟩

/-- those entries of a literal whose inserts have come up -/
def sel (listed : Array Bool) : List (Nat × OpI) → List AEnt → List AEnt
  | p :: l, x :: es => if listed.getD p.1 false = true then x :: sel listed l es else sel listed l es
  | _, _ => []

theorem sel_full {listed : Array Bool} : ∀ {l : List (Nat × OpI)} {es : List AEnt}, es.length = l.length → (∀ p ∈ l, listed.getD p.1 false = true) → sel listed l es = es
  | [], [], _, _ => rfl
  | p :: l, x :: es, h, hl => by
    simp only [sel, hl p List.mem_cons_self, if_true]
    rw [sel_full (by simpa using h) fun q hq => hl q (List.mem_cons_of_mem _ hq)]
  | [], _ :: _, h, _ => by simp at h
  | _ :: _, [], h, _ => by simp at h

theorem sel_none {listed : Array Bool} : ∀ {l : List (Nat × OpI)} {es : List AEnt}, (∀ p ∈ l, listed.getD p.1 false = false) → sel listed l es = []
  | [], _, _ => by simp [sel]
  | _ :: _, [], _ => by simp [sel]
  | p :: l, x :: es, hl => by
    simp only [sel, hl p List.mem_cons_self, Bool.false_eq_true, if_false]
    exact sel_none fun q hq => hl q (List.mem_cons_of_mem _ hq)

theorem sel_congr {listed listed' : Array Bool} : ∀ {l : List (Nat × OpI)} {es : List AEnt}, (∀ p ∈ l, listed'.getD p.1 false = listed.getD p.1 false) → sel listed' l es = sel listed l es
  | [], _, _ => by simp [sel]
  | _ :: _, [], _ => by simp [sel]
  | p :: l, x :: es, hl => by
    simp only [sel, hl p List.mem_cons_self]
    rw [sel_congr fun q hq => hl q (List.mem_cons_of_mem _ hq)]

theorem sel_mem {listed : Array Bool} {x : AEnt} : ∀ {l : List (Nat × OpI)} {es : List AEnt}, x ∈ sel listed l es → ∃ (r : Nat) (p : Nat × OpI), l[r]? = some p ∧ es[r]? = some x ∧ listed.getD p.1 false = true
  | [], _, h => by simp [sel] at h
  | _ :: _, [], h => by simp [sel] at h
  | p :: l, y :: es, h => by
    simp only [sel] at h
    split at h
    · rename_i hp
      rcases List.mem_cons.1 h with rfl | h
      · exact ⟨0, p, rfl, rfl, hp⟩
      · obtain ⟨r, q, h1, h2, h3⟩ := sel_mem h
        exact ⟨r + 1, q, h1, h2, h3⟩
    · obtain ⟨r, q, h1, h2, h3⟩ := sel_mem h
      exact ⟨r + 1, q, h1, h2, h3⟩

theorem sel_set {listed listed' : Array Bool} {i : Nat} (hset : ∀ j, listed'.getD j false = true ↔ (j = i ∨ listed.getD j false = true)) (hun : listed.getD i false = false) :
    ∀ {l : List (Nat × OpI)} {es : List AEnt} {r : Nat} {p : Nat × OpI} {x : AEnt}, (l.map (·.1)).Nodup → l[r]? = some p → p.1 = i → es[r]? = some x → (sel listed' l es).Perm (x :: sel listed l es)
  | [], _, r, p, x, _, h, _, _ => by simp at h
  | _ :: _, [], r, p, x, _, _, _, h => by simp at h
  | q :: l, y :: es, r, p, x, hnd, h1, h2, h3 => by
    simp only [List.map_cons, List.nodup_cons] at hnd
    have other : ∀ j, j ≠ i → listed'.getD j false = listed.getD j false := by
      intro j hj
      cases hl : listed.getD j false with
      | true => exact (hset j).2 (.inr hl)
      | false =>
        cases hl' : listed'.getD j false with
        | false => rfl
        | true =>
          rcases (hset j).1 hl' with h | h
          · exact absurd h hj
          · rw [hl] at h; cases h
    cases r with
    | zero =>
      simp only [List.getElem?_cons_zero, Option.some.injEq] at h1 h3
      subst h1; subst h3
      simp only [sel, h2, (hset i).2 (.inl rfl), hun, if_true, Bool.false_eq_true, if_false]
      rw [sel_congr (listed := listed) (listed' := listed') fun p' hp' => other _ fun e1 => hnd.1 (by rw [h2, ← e1]; exact List.mem_map.2 ⟨p', hp', rfl⟩)]
    | succ r =>
      simp only [List.getElem?_cons_succ] at h1 h3
      have hq : q.1 ≠ i := fun e1 => hnd.1 (by rw [e1, ← h2]; exact List.mem_map.2 ⟨p, List.mem_of_getElem? h1, rfl⟩)
      have ih := sel_set hset hun hnd.2 h1 h2 h3
      simp only [sel, other _ hq]
      split
      · exact (ih.cons y).trans (List.Perm.swap _ _ _)
      · exact ih

/-- what a block that was made in the statement holds by now -/
def cont (d : DI) (x : ABlk) (listed : Array Bool) : ABlk := match d, x with
  | .m _ _ l, .map es ck => .map (sel listed l es) ck
  | _, x => x

theorem ERL.perm {μ : Mp} {l l2 : List AEnt} (hp : l.Perm l2) : ∀ {p : List MapEntry}, ERL μ l p → ∃ p2, p.Perm p2 ∧ ERL μ l2 p2 := by
  induction hp with
  | nil => intro p h; exact ⟨p, .refl _, h⟩
  | cons x _ ih =>
    intro p h
    cases p with
    | nil => simp [ERL] at h
    | cons y p =>
      simp only [ERL] at h
      obtain ⟨p2, h1, h2⟩ := ih h.2
      exact ⟨y :: p2, h1.cons y, by simp only [ERL]; exact ⟨h.1, h2⟩⟩
  | swap x y l =>
    intro p h
    cases p with
    | nil => simp [ERL] at h
    | cons a p =>
      cases p with
      | nil => simp [ERL] at h
      | cons b p =>
        simp only [ERL] at h
        exact ⟨b :: a :: p, List.Perm.swap _ _ _, by simp only [ERL]; exact ⟨h.2.1, h.1, h.2.2⟩⟩
  | trans _ _ ih1 ih2 =>
    intro p h
    obtain ⟨p2, h1, h2⟩ := ih1 h
    obtain ⟨p3, h3, h4⟩ := ih2 h2
    exact ⟨p3, h1.trans h3, h4⟩

theorem BR.perm {μ : Mp} {L : Loc} {es es2 : List AEnt} {c1 c2 : Nat} {w : World} (hp : es.Perm es2) (h : BR μ L (.map es c1) w) : BR μ L (.map es2 c2) w := by
  obtain ⟨es', ck, p, h1, h2, h3⟩ := h
  obtain ⟨p2, h4, h5⟩ := h3.perm hp
  exact ⟨es', ck, p2, h1, h4.symm.trans h2, h5⟩

structure DInv (P : Program) (G N : Nat) (μ0 : Mp) (S0 : AH) (w0 : World) (its : List DI) (T : Nat → DS) (V : Nat → AV) (A : Nat → Option ABlk) (κ : Nat) (μ : Mp) (listed : Array Bool) (a : Act) (w : World) : Prop where
  kle : κ ≤ its.length
  pre : ∀ (c : Nat) (d : DI), its[c]? = some d → c < κ → listed.getD d.i false = true
  post : ∀ (c : Nat) (d : DI), its[c]? = some d → κ ≤ c → d.isE = true → listed.getD d.i false = false
  head : ∃ hs, (T κ).hs = (T κ).S :: hs
  rel : Rel G μ (T κ).S w
  ext : Ext μ0 S0 w0 μ (T κ).S w
  dr : DRL P μ (T κ).D a.defers
  val : ∀ (c : Nat) (d : DI) t, its[c]? = some d → listed.getD d.i false = true → d.o.dst = some t → VR μ (V c) (a.tmps.getD t undef)
  old : ∀ t x, (∀ (c : Nat) (d : DI), its[c]? = some d → listed.getD d.i false = true → d.o.dst ≠ some t) → (T 0).E.get t = some x → VR μ x (a.tmps.getD t undef)
  tsz : N ≤ a.tmps.size
  det : ∀ (c : Nat) (d : DI) k, its[c]? = some d → listed.getD d.i false = true → κ ≤ c → A c = some k →
    ∃ L, μ (S0.n + d.i) = some L ∧ BR μ L (cont d k listed) w ∧ w0.heap.size ≤ L.blk ∧ ∀ b k' L', (T κ).S.h.get b = some k' → μ b = some L' → L'.blk ≠ L.blk
  dist : ∀ (c c' : Nat) (d d' : DI) k k' L L', its[c]? = some d → its[c']? = some d' → listed.getD d.i false = true → listed.getD d'.i false = true → κ ≤ c → κ ≤ c' → A c = some k → A c' = some k' →
    μ (S0.n + d.i) = some L → μ (S0.n + d'.i) = some L' → L.blk = L'.blk → c = c'
  free : ∀ (c : Nat) (d : DI), its[c]? = some d → listed.getD d.i false = false → μ (S0.n + d.i) = none
  fresh : Fresh μ (T κ).S (T its.length).S
  low : S0.n + its.length ≤ (T κ).S.n
  kap : κ = 0 ∨ ∃ y, its[κ - 1]? = some y ∧ y.isE = true

section
variable {kn : Nat → Bool} {call : Nat → List AV → AH → Option (CR × AH)} {ops : Array Oper} {its : List DI} {T : Nat → DS} {V : Nat → AV} {A : Nat → Option ABlk} {κ : Nat} {listed : Array Bool} {a : Act} {Q : Exit → Act → World → Prop}

theorem SR.env {n0 : Nat} {d : DI} {s s' : DS} {v : AV} {x : Option ABlk} (h : SR kn call n0 d s v x s') : s'.E = putO s.E d.o.dst v := by
  cases h <;> rfl

theorem SR.quiet {n0 : Nat} {d : DI} {s s' : DS} {v : AV} {x : Option ABlk} (h : SR kn call n0 d s v x s') (hd : d.isE = false) :
    s'.S = s.S.attach (n0 + d.i) x ∧ s'.D = s.D ∧ s'.hs = s.hs ∧ s'.k = s.k := by
  cases h with
  | skip _ _ _ => exact ⟨rfl, rfl, rfl, rfl⟩
  | q _ _ _ => exact ⟨rfl, rfl, rfl, rfl⟩
  | r _ _ => exact ⟨rfl, rfl, rfl, rfl⟩
  | m _ _ _ => exact ⟨rfl, rfl, rfl, rfl⟩
  | n => exact ⟨rfl, rfl, rfl, rfl⟩
  | k _ _ _ => exact ⟨rfl, rfl, rfl, rfl⟩
  | e _ => cases hd

theorem SR.eff {n0 : Nat} {d : DI} {s s' : DS} {v : AV} {x : Option ABlk} (h : SR kn call n0 d s v x s') (hd : d.isE = true) :
    s'.hs = s'.S :: s.hs ∧ s'.k = s.k + 1 := by
  cases h with
  | skip _ hk _ => rw [hd] at hk; cases hk
  | q _ _ _ => cases hd
  | r _ _ => cases hd
  | m _ _ _ => cases hd
  | n => cases hd
  | k _ _ _ => cases hd
  | e h => exact ⟨rfl, rfl⟩

theorem SR.run {n0 : Nat} {d : DI} {s s' : DS} {v : AV} {x : Option ABlk} (h : SR kn call n0 d s v x s') (hd : d.isE = true) :
    evOp kn call d.o s.E s.D s.S = some (none, putO s.E d.o.dst v, s'.D, s'.S) := by
  cases h with
  | skip _ hk _ => rw [hd] at hk; cases hk
  | q _ _ _ => cases hd
  | r _ _ => cases hd
  | m _ _ _ => cases hd
  | n => cases hd
  | k _ _ _ => cases hd
  | e h => exact h

theorem SR.lit {n0 : Nat} {i : Nat} {o : OpI} {l : List (Nat × OpI)} {s s' : DS} {v : AV} {x : ABlk} (h : SR kn call n0 (.m i o l) s v (some x) s') : ∃ es, x = .map es 0 ∧ mins s.E l [] = some es ∧ v = .mp (n0 + i) := by
  cases h with
  | m _ _ h => exact ⟨_, rfl, h, rfl⟩

theorem SR.mono (hn : CallN call) {n0 : Nat} {d : DI} {s s' : DS} {v : AV} {x : Option ABlk} (h : SR kn call n0 d s v x s') : s.S.n ≤ s'.S.n := by
  cases h with
  | skip _ _ _ => exact Nat.le_refl _
  | q _ _ _ => simp only [n_attach]; exact Nat.le_refl _
  | r _ _ => exact Nat.le_refl _
  | m _ _ _ => simp only [n_attach]; exact Nat.le_refl _
  | n => exact Nat.le_refl _
  | k _ _ _ => exact Nat.le_refl _
  | e h => exact n_evOp hn h

variable (hn : CallN call) (hs : ∀ (c : Nat) (d : DI), its[c]? = some d → SR kn call S0.n d (T c) (V c) (A c) (T (c + 1)))
include hs

theorem tr_env : ∀ m, m ≤ its.length → ∀ t, (∃ (c : Nat) (d : DI), c < m ∧ its[c]? = some d ∧ d.o.dst = some t ∧ (T m).E.get t = some (V c)) ∨
    ((∀ (c : Nat) (d : DI), c < m → its[c]? = some d → d.o.dst ≠ some t) ∧ (T m).E.get t = (T 0).E.get t)
  | 0, _, t => .inr ⟨fun c d h => absurd h (Nat.not_lt_zero _), rfl⟩
  | m + 1, hm, t => by
    have hd : its[m]? = some its[m] := List.getElem?_eq_getElem hm
    have he := (hs m _ hd).env
    rw [he]
    by_cases hx : (its[m]).o.dst = some t
    · refine .inl ⟨m, _, Nat.lt_succ_self _, hd, hx, ?_⟩
      rw [hx]
      simp only [putO]
      rw [Tr.get_put, if_pos rfl]
    · have e1 : (putO (T m).E (its[m]).o.dst (V m)).get t = (T m).E.get t := by
        cases hy : (its[m]).o.dst with
        | none => rfl
        | some u =>
          rw [hy] at hx
          simp only [putO]
          rw [Tr.get_put, if_neg (fun e => hx (by rw [e]))]
      rw [e1]
      rcases tr_env m (Nat.le_of_succ_le hm) t with ⟨c, d, h1, h2, h3, h4⟩ | ⟨h1, h2⟩
      · exact .inl ⟨c, d, Nat.lt_succ_of_lt h1, h2, h3, h4⟩
      · refine .inr ⟨fun c d hc hcd => ?_, h2⟩
        rcases Nat.lt_succ_iff_lt_or_eq.1 hc with hc | rfl
        · exact h1 c d hc hcd
        · rw [hd] at hcd; cases hcd; exact hx

include hn in
theorem tr_n : ∀ k c, c + k ≤ its.length → (T c).S.n ≤ (T (c + k)).S.n
  | 0, c, _ => Nat.le_refl _
  | k + 1, c, h => by
    have hd : its[c + k]? = some its[c + k] := List.getElem?_eq_getElem h
    exact Nat.le_trans (tr_n k c (by omega)) ((hs _ _ hd).mono hn)

theorem tr_hs (κ : Nat) : ∀ k, κ + k ≤ its.length → ∃ pre : List AH, (T (κ + k)).hs = pre ++ (T κ).hs ∧ (T (κ + k)).k = (T κ).k + pre.length
  | 0, _ => ⟨[], rfl, rfl⟩
  | k + 1, h => by
    have hd : its[κ + k]? = some its[κ + k] := List.getElem?_eq_getElem h
    obtain ⟨pre, h1, h2⟩ := tr_hs κ k (by omega)
    have hsr := hs _ _ hd
    have e1 : T (κ + (k + 1)) = T (κ + k + 1) := rfl
    rw [e1]
    cases hE : (its[κ + k]).isE with
    | false =>
      obtain ⟨_, _, h3, h4⟩ := hsr.quiet hE
      exact ⟨pre, by rw [h3]; exact h1, by rw [h4]; exact h2⟩
    | true =>
      obtain ⟨h3, h4⟩ := hsr.eff hE
      exact ⟨_ :: pre, by rw [h3, h1, List.cons_append], by rw [h4, h2, List.length_cons]; omega⟩

theorem tr_k (h0 : (T 0).k = 0) : ∀ c, c ≤ its.length → (T c).k = (its.take c).countP DI.isE
  | 0, _ => by simpa using h0
  | c + 1, h => by
    have hd : its[c]? = some its[c] := List.getElem?_eq_getElem h
    have ih := tr_k h0 c (by omega)
    have hsr := hs _ _ hd
    rw [List.take_succ_eq_append_getElem h, List.countP_append, ← ih]
    cases hE : (its[c]).isE with
    | false =>
      obtain ⟨_, _, _, h4⟩ := hsr.quiet hE
      simp [h4, hE]
    | true =>
      obtain ⟨_, h4⟩ := hsr.eff hE
      simp [h4, hE]

/-- the blocks that were kept apart join the memory -/
theorem DInv.attach (inv : DInv P G N μ0 S0 w0 its T V A κ μ listed a w) (hb : ∀ (c : Nat) (d : DI), its[c]? = some d → d.i < its.length) (hidx : ∀ (c d : Nat) (x y : DI), its[c]? = some x → its[d]? = some y → x.i = y.i → c = d) :
    ∀ k, κ + k ≤ its.length → (∀ (c : Nat) (d : DI), its[c]? = some d → κ ≤ c → c < κ + k → d.isE = false ∧ listed.getD d.i false = true) →
      (∀ (c i : Nat) o l p, its[c]? = some (.m i o l) → κ ≤ c → c < κ + k → p ∈ l → listed.getD p.1 false = true) →
      Rel G μ (T (κ + k)).S w ∧ Ext μ0 S0 w0 μ (T (κ + k)).S w ∧ (T (κ + k)).D = (T κ).D ∧ (T (κ + k)).S.n = (T κ).S.n ∧
      ∀ b x, (T (κ + k)).S.h.get b = some x → (T κ).S.h.get b = some x ∨ ∃ (c : Nat) (d : DI), its[c]? = some d ∧ κ ≤ c ∧ c < κ + k ∧ b = S0.n + d.i ∧ A c = some x
  | 0, _, _, _ => ⟨inv.rel, inv.ext, rfl, rfl, fun b x h => .inl h⟩
  | k + 1, hk, hq, hlit => by
    obtain ⟨h1, h2, h3, h4, h5⟩ := inv.attach hb hidx k (by omega) (fun c d hc h1 h2 => hq c d hc h1 (by omega)) (fun c i o l p hc h1 h2 => hlit c i o l p hc h1 (by omega))
    have hd : its[κ + k]? = some its[κ + k] := List.getElem?_eq_getElem hk
    generalize its[κ + k] = d at hd
    obtain ⟨hE, hl⟩ := hq (κ + k) d hd (by omega) (by omega)
    obtain ⟨g1, g2, _, _⟩ := (hs _ _ hd).quiet hE
    have e1 : T (κ + (k + 1)) = T (κ + k + 1) := rfl
    rw [e1, g1, g2]
    cases hA : A (κ + k) with
    | none =>
      refine ⟨h1, h2, h3, h4, fun b x hx => ?_⟩
      rcases h5 b x hx with h6 | ⟨c, d', i1, i2, i3, i4, i5⟩
      · exact .inl h6
      · exact .inr ⟨c, d', i1, i2, by omega, i4, i5⟩
    | some x0 =>
      obtain ⟨L, j1, j2, j3, j4⟩ := inv.det _ _ _ hd hl (by omega) hA
      have hcf : cont d x0 listed = x0 := by
        cases d with
        | m i o l =>
          have hsr := hs _ _ hd
          rw [hA] at hsr
          obtain ⟨es, rfl, hes, _⟩ := hsr.lit
          have hlen := (mins_spec l hes).1
          simp only [cont]
          rw [sel_full (by simpa using hlen) fun p hp => hlit _ _ _ _ p hd (by omega) (by omega) hp]
        | _ => rfl
      rw [hcf] at j2
      have hib := hb _ _ hd
      have hlow := inv.low
      refine ⟨h1.attach (by omega) j1 j2 ?_, h2.attach j1 j3, h3, by rw [n_attach]; exact h4, ?_⟩
      · intro b k' L' hk' hL' hne
        rcases h5 b k' hk' with h6 | ⟨c, d', i1, i2, i3, i4, i5⟩
        · exact j4 b k' L' h6 hL'
        · intro e2
          subst i4
          have hl' := (hq c d' i1 i2 (by omega)).2
          have := inv.dist c (κ + k) d' d _ _ L' L i1 hd hl' hl i2 (by omega) i5 hA hL' j1 e2
          omega
      · intro b x hx
        simp only [AH.attach] at hx
        rw [Tr.get_put] at hx
        split at hx
        · rename_i e2
          cases hx
          exact .inr ⟨κ + k, d, hd, by omega, by omega, e2.symm, hA⟩
        · rcases h5 b x hx with h6 | ⟨c, d', i1, i2, i3, i4, i5⟩
          · exact .inl h6
          · exact .inr ⟨c, d', i1, i2, by omega, i4, i5⟩

/-- what an operation looks at is at hand -/
theorem DInv.look (inv : DInv P G N μ0 S0 w0 its T V A κ μ listed a w) (hok : DrawOk ops its) {c : Nat} {d : DI} (hc : its[c]? = some d) (hun : listed.getD d.i false = false)
    (hdep : ∀ j, ((Region.before ops).getD d.i 0).testBit j = true → listed.getD j false = true)
    (hdep' : ∀ i, listed.getD i false = true → ∀ j, ((Region.before ops).getD i 0).testBit j = true → listed.getD j false = true) : EnvR N μ (restr (T c).E d.o.ts) a := by
  refine ⟨inv.tsz, ?_⟩
  intro t x hx
  rw [restr_get] at hx
  split at hx
  · rename_i ht
    have hlt : c < its.length := (List.getElem?_eq_some_iff.1 hc).1
    rcases tr_env hs c (Nat.le_of_lt hlt) t with ⟨c', d', h1, h2, h3, h4⟩ | ⟨h1, h2⟩
    · rw [h4] at hx; cases hx
      rcases hok.look c c' d d' t hc h2 ht h3 with h5 | h5 | h5
      · omega
      · exact inv.val c' d' t h2 (hdep _ h5.2) h3
      · omega
    · rw [h2] at hx
      refine inv.old t x (fun c' d' h3 h4 h5 => ?_) hx
      rcases hok.look c c' d d' t hc h3 ht h5 with h6 | h6 | h6
      · subst h6
        rw [hc] at h3; cases h3
        rw [hun] at h4; cases h4
      · exact h1 c' d' h6.1 h3 h5
      · have := hdep' _ h4 _ h6.2
        rw [hun] at this; cases this
  · cases hx

omit hs in
theorem DInv.step (inv : DInv P G N μ0 S0 w0 its T V A κ μ listed a w) (hok : DrawOk ops its) (hsz : listed.size = ops.size) {c : Nat} {d : DI} (hc : its[c]? = some d) (hi : d.i < ops.size) (hE : d.isE = false) (hun : listed.getD d.i false = false) (hdst : dstOk N d.o.dst = true)
    {μ' : Mp} {w' : World} {v' : Value} (hle : μ.le μ') (hdom : ∀ b L, μ' b = some L → μ b = some L ∨ b = S0.n + d.i) (hrel : Rel G μ' (T κ).S w') (hext : Ext μ0 S0 w0 μ' (T κ).S w')
    (hkeep : ∀ (c' : Nat) (d' : DI) L k, its[c']? = some d' → listed.getD d'.i false = true → κ ≤ c' → A c' = some k → μ (S0.n + d'.i) = some L → (∀ b k' L', (T κ).S.h.get b = some k' → μ b = some L' → L'.blk ≠ L.blk) → BR μ L (cont d' k listed) w → BR μ' L (cont d' k (listed.setIfInBounds d.i true)) w') (hwz : w0.heap.size ≤ w.heap.size)
    (hnew : ∀ k, A c = some k → ∃ L, μ' (S0.n + d.i) = some L ∧ BR μ' L (cont d k (listed.setIfInBounds d.i true)) w' ∧ w.heap.size ≤ L.blk) (hv : VR μ' (V c) v') :
    DInv P G N μ0 S0 w0 its T V A κ μ' (listed.setIfInBounds d.i true) (a.put d.o.dst v') w' := by
  have hset := listed_set (listed := listed) (i := d.i) (by omega)
  have hfr := inv.free c d hc hun
  have live : ∀ b k L', (T κ).S.h.get b = some k → μ' b = some L' → μ b = some L' ∧ L'.blk < w.heap.size := by
    intro b k L' hb hL'
    obtain ⟨L2, h1, h2⟩ := inv.rel.blk b k hb
    have := hle _ _ h1
    rw [this] at hL'; cases hL'
    exact ⟨h1, h2.lt⟩
  have oldm : ∀ (c' : Nat) (d' : DI) L, its[c']? = some d' → listed.getD d'.i false = true → μ' (S0.n + d'.i) = some L → μ (S0.n + d'.i) = some L := by
    intro c' d' L h1 h2 h3
    rcases hdom _ _ h3 with h4 | h4
    · exact h4
    · have : d'.i = d.i := by omega
      rw [this, hun] at h2; cases h2
  refine ⟨inv.kle, ?_, ?_, inv.head, hrel, hext, ?_, ?_, ?_, ?_, ?_, ?_, ?_, ?_, inv.low, inv.kap⟩
  · intro c' d' h1 h2
    exact (hset _).2 (.inr (inv.pre c' d' h1 h2))
  · intro c' d' h1 h2 h3
    have h4 := inv.post c' d' h1 h2 h3
    cases hl : (listed.setIfInBounds d.i true).getD d'.i false with
    | false => rfl
    | true =>
      rcases (hset _).1 hl with h5 | h5
      · have := hok.idx c' c d' d h1 hc h5
        subst this
        rw [hc] at h1; cases h1
        rw [hE] at h3; cases h3
      · rw [h4] at h5; cases h5
  · rw [put_defers]; exact inv.dr.mono hle
  · intro c' d' t h1 h2 h3
    rw [put_getD a hdst inv.tsz]
    split
    · rename_i e1
      have := hok.dst c c' d d' t hc h1 e1 h3
      subst this; exact hv
    · rename_i e1
      rcases (hset _).1 h2 with h5 | h5
      · have := hok.idx c' c d' d h1 hc h5
        subst this
        rw [hc] at h1; cases h1
        exact absurd h3 e1
      · exact (inv.val c' d' t h1 h5 h3).mono hle
  · intro t x h1 h2
    rw [put_getD a hdst inv.tsz]
    have e1 : ¬ d.o.dst = some t := h1 c d hc ((hset _).2 (.inl rfl))
    rw [if_neg e1]
    exact (inv.old t x (fun c' d' h3 h4 => h1 c' d' h3 ((hset _).2 (.inr h4))) h2).mono hle
  · rw [put_size]; exact inv.tsz
  · intro c' d' k h1 h2 h3 h4
    rcases (hset _).1 h2 with h5 | h5
    · have := hok.idx c' c d' d h1 hc h5
      subst this
      rw [hc] at h1; cases h1
      obtain ⟨L, g1, g2, g3⟩ := hnew k h4
      refine ⟨L, g1, g2, by omega, fun b k' L' hb hL' => ?_⟩
      have := (live b k' L' hb hL').2
      omega
    · obtain ⟨L, g1, g2, g3, g4⟩ := inv.det c' d' k h1 h5 h3 h4
      exact ⟨L, hle _ _ g1, hkeep c' d' L k h1 h5 h3 h4 g1 g4 g2, g3, fun b k' L' hb hL' => g4 b k' L' hb (live b k' L' hb hL').1⟩
  · intro c1 c2 d1 d2 k1 k2 L1 L2 h1 h2 l1 l2 n1 n2 a1 a2 m1 m2 e1
    have far : ∀ (c' : Nat) (d' : DI) k' L', its[c']? = some d' → listed.getD d'.i false = true → κ ≤ c' → A c' = some k' → μ' (S0.n + d'.i) = some L' → L'.blk < w.heap.size := by
      intro c' d' k' L' g1 g2 g3 g4 g5
      obtain ⟨L, j1, j2, _⟩ := inv.det c' d' k' g1 g2 g3 g4
      have := oldm c' d' L' g1 g2 g5
      rw [j1] at this; cases this
      exact j2.lt
    rcases (hset _).1 l1 with q1 | q1 <;> rcases (hset _).1 l2 with q2 | q2
    · exact hok.idx c1 c2 d1 d2 h1 h2 (q1.trans q2.symm)
    · have := hok.idx c1 c d1 d h1 hc q1
      subst this
      rw [hc] at h1; cases h1
      obtain ⟨L, g1, g2, g3⟩ := hnew k1 a1
      rw [g1] at m1; cases m1
      have := far c2 d2 k2 L2 h2 q2 n2 a2 m2
      omega
    · have := hok.idx c2 c d2 d h2 hc q2
      subst this
      rw [hc] at h2; cases h2
      obtain ⟨L, g1, g2, g3⟩ := hnew k2 a2
      rw [g1] at m2; cases m2
      have := far c1 d1 k1 L1 h1 q1 n1 a1 m1
      omega
    · exact inv.dist c1 c2 d1 d2 k1 k2 L1 L2 h1 h2 q1 q2 n1 n2 a1 a2 (oldm _ _ _ h1 q1 m1) (oldm _ _ _ h2 q2 m2) e1
  · intro c' d' h1 h2
    cases hm : μ' (S0.n + d'.i) with
    | none => rfl
    | some L =>
      have hl' : listed.getD d'.i false = false := by
        cases hl : listed.getD d'.i false with
        | false => rfl
        | true => rw [(hset _).2 (.inr hl)] at h2; cases h2
      rcases hdom _ _ hm with h3 | h3
      · rw [inv.free c' d' h1 hl'] at h3; cases h3
      · have : d'.i = d.i := by omega
        rw [this, (hset _).2 (.inl rfl)] at h2; cases h2
  · intro b h1 h2
    cases hm : μ' b with
    | none => rfl
    | some L =>
      rcases hdom _ _ hm with h3 | h3
      · rw [inv.fresh b h1 h2] at h3; cases h3
      · have := inv.low
        have := hok.len
        omega

omit hs in
theorem DInv.stepE (inv : DInv P G N μ0 S0 w0 its T V A κ μ listed a w) (hok : DrawOk ops its) (hsz : listed.size = ops.size) {k : Nat} {d : DI} (hc : its[κ + k]? = some d) (hi : d.i < ops.size) (hdst : dstOk N d.o.dst = true)
    (hahead : ∀ (c' : Nat) (d' : DI), its[c']? = some d' → c' < κ + k → listed.getD d'.i false = true)
    (h2 : Ext μ0 S0 w0 μ (T (κ + k)).S w) (h4 : (T (κ + k)).S.n = (T κ).S.n)
    (h5 : ∀ b x, (T (κ + k)).S.h.get b = some x → (T κ).S.h.get b = some x ∨ ∃ (c : Nat) (d : DI), its[c]? = some d ∧ κ ≤ c ∧ c < κ + k ∧ b = S0.n + d.i ∧ A c = some x)
    (hb : ∀ (c : Nat) (d : DI), its[c]? = some d → d.i < its.length) (hnle : (T (κ + k)).S.n ≤ (T (κ + k + 1)).S.n)
    {μ' : Mp} {a' : Act} {w' : World} {v' : Value} (g1 : Rel G μ' (T (κ + k + 1)).S w') (g2 : Ext μ (T (κ + k)).S w μ' (T (κ + k + 1)).S w') (g3 : ∀ t, d.o.dst = some t → VR μ' (V (κ + k)) v') (g4 : DRL P μ' (T (κ + k + 1)).D a'.defers)
    (g5 : a'.tmps = (a.put d.o.dst v').tmps) (hE : d.isE = true) (hcont : ∀ (c' : Nat) (d' : DI) k', its[c']? = some d' → cont d' k' (listed.setIfInBounds d.i true) = cont d' k' listed) (hh : (T (κ + k + 1)).hs = (T (κ + k + 1)).S :: (T (κ + k)).hs) :
    DInv P G N μ0 S0 w0 its T V A (κ + k + 1) μ' (listed.setIfInBounds d.i true) a' w' := by
  have hset := listed_set (listed := listed) (i := d.i) (by omega)
  have hcl : κ + k < its.length := (List.getElem?_eq_some_iff.1 hc).1
  -- one that stands behind was listed ahead
  have hback : ∀ (c' : Nat) (d' : DI), its[c']? = some d' → κ + k + 1 ≤ c' → (listed.setIfInBounds d.i true).getD d'.i false = true → listed.getD d'.i false = true := by
    intro c' d' q1 q2 q3
    rcases (hset _).1 q3 with q4 | q4
    · have := hok.idx c' (κ + k) d' d q1 hc q4; omega
    · exact q4
  have far : ∀ (c' : Nat) (d' : DI) kk L, its[c']? = some d' → listed.getD d'.i false = true → κ + k + 1 ≤ c' → A c' = some kk → μ (S0.n + d'.i) = some L → (∀ b k' L', (T κ).S.h.get b = some k' → μ b = some L' → L'.blk ≠ L.blk) →
      ∀ b k' L', (T (κ + k)).S.h.get b = some k' → μ b = some L' → L'.blk ≠ L.blk := by
    intro c' d' kk L q1 q2 q3 q4 q5 q6 b k' L' q7 q8
    rcases h5 b k' q7 with q9 | ⟨c2, d2, i1, i2, i3, i4, i5⟩
    · exact q6 b k' L' q9 q8
    · intro e1
      subst i4
      have := inv.dist c2 c' d2 d' _ _ L' L i1 q1 (hahead c2 d2 i1 i3) q2 i2 (by omega) i5 q4 q8 q5 e1
      omega
  refine ⟨hcl, ?_, ?_, ⟨_, hh⟩, g1, h2.trans g2, g4, ?_, ?_, ?_, ?_, ?_, ?_, ?_, ?_, .inr ⟨d, by rw [Nat.add_sub_cancel]; exact hc, hE⟩⟩
  · intro c' d' q1 q2
    rcases Nat.lt_succ_iff_lt_or_eq.1 q2 with q2 | rfl
    · exact (hset _).2 (.inr (hahead c' d' q1 q2))
    · rw [hc] at q1; cases q1; exact (hset _).2 (.inl rfl)
  · intro c' d' q1 q2 q3
    cases hl : (listed.setIfInBounds d.i true).getD d'.i false with
    | false => rfl
    | true =>
      have := inv.post c' d' q1 (by omega) q3
      rw [hback c' d' q1 q2 hl] at this; cases this
  · intro c' d' t q1 q2 q3
    rw [g5, put_getD a hdst inv.tsz]
    split
    · rename_i e1
      have := hok.dst c' (κ + k) d' d t q1 hc q3 e1
      subst this; exact g3 t e1
    · rename_i e1
      rcases (hset _).1 q2 with q5 | q5
      · have := hok.idx c' (κ + k) d' d q1 hc q5
        subst this
        rw [hc] at q1; cases q1
        exact absurd q3 e1
      · exact (inv.val c' d' t q1 q5 q3).mono g2.mono
  · intro t x q1 q2
    rw [g5, put_getD a hdst inv.tsz]
    have e1 : ¬ d.o.dst = some t := q1 (κ + k) d hc ((hset _).2 (.inl rfl))
    rw [if_neg e1]
    exact (inv.old t x (fun c' d' q3 q4 => q1 c' d' q3 ((hset _).2 (.inr q4))) q2).mono g2.mono
  · rw [g5, put_size]; exact inv.tsz
  · intro c' d' kk q1 q2 q3 q4
    have q5 := hback c' d' q1 q3 q2
    obtain ⟨L, m1, m2, m3, m4⟩ := inv.det c' d' kk q1 q5 (by omega) q4
    have hfar := far c' d' kk L q1 q5 q3 q4 m1 m4
    refine ⟨L, g2.mono _ _ m1, by rw [hcont c' d' kk q1]; exact (m2.mono g2.mono).congr (g2.frame _ m2.lt fun b k' L' hb' _ hL' => hfar b k' L' hb' hL'), m3, ?_⟩
    intro b k' L' hb' hL'
    have hlt := m2.lt
    rcases g2.img b k' L' hb' hL' with m5 | ⟨b0, k0, L0, m5, m6, m7, _⟩
    · omega
    · rw [← m7]; exact hfar b0 k0 L0 m5 m6
  · intro c1 c2 d1 d2 k1 k2 L1 L2 q1 q2 l1 l2 n1 n2 a1 a2 m1 m2 e1
    have b1 := hback c1 d1 q1 n1 l1
    have b2 := hback c2 d2 q2 n2 l2
    have old : ∀ (c' : Nat) (d' : DI) kk L, its[c']? = some d' → listed.getD d'.i false = true → κ + k + 1 ≤ c' → A c' = some kk → μ' (S0.n + d'.i) = some L → μ (S0.n + d'.i) = some L := by
      intro c' d' kk L p1 p2 p3 p4 p5
      obtain ⟨L2, r1, _⟩ := inv.det c' d' kk p1 p2 (by omega) p4
      rw [g2.mono _ _ r1] at p5; cases p5; exact r1
    exact inv.dist c1 c2 d1 d2 k1 k2 L1 L2 q1 q2 b1 b2 (by omega) (by omega) a1 a2 (old _ _ _ _ q1 b1 n1 a1 m1) (old _ _ _ _ q2 b2 n2 a2 m2) e1
  · intro c' d' q1 q2
    have q3 : listed.getD d'.i false = false := by
      cases hl : listed.getD d'.i false with
      | false => rfl
      | true => rw [(hset _).2 (.inr hl)] at q2; cases q2
    cases hm : μ' (S0.n + d'.i) with
    | none => rfl
    | some L =>
      rcases g2.dom _ _ hm with q4 | q4
      · rw [inv.free c' d' q1 q3] at q4; cases q4
      · have := inv.low
        have := hb c' d' q1
        omega
  · intro b q1 q2
    cases hm : μ' b with
    | none => rfl
    | some L =>
      rcases g2.dom _ _ hm with q4 | q4
      · rw [inv.fresh b (by omega) q2] at q4; cases q4
      · omega
  · have := inv.low; omega

omit hs in
/-- an operation that is no insert of a literal leaves what the blocks hold -/
theorem cont_other (hok : DrawOk ops its) {c : Nat} {d : DI} (hc : its[c]? = some d) (hn : ∀ i o j, d ≠ .n i o j) (hi : d.i < listed.size) (c' : Nat) (d' : DI) (k : ABlk) (hc' : its[c']? = some d') :
    cont d' k (listed.setIfInBounds d.i true) = cont d' k listed := by
  cases d' with
  | m i o l =>
    cases k with
    | map es ck =>
      simp only [cont]
      rw [sel_congr fun p hp => ?_]
      by_cases e1 : d.i = p.1
      · obtain ⟨_, i', o', e2⟩ := hok.mins c' i o l c d p hc' hc hp e1
        exact absurd e2 (hn _ _ _)
      · exact getD_set_ne false e1
    | _ => rfl
  | _ => rfl

end
end Go.Eng
