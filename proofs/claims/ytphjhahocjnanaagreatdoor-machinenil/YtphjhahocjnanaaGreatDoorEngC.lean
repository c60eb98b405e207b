/- The evaluator of the model's code, part 3 of 3: what it computes, and that the model does the same; no condition beyond those that each theorem names. -/
import Derived.Test.YtphjhahocjnanaaGreatDoorEngB
import Derived.Recover
import Derived.LoopN
import Derived.Below
import Derived.Sort.EncStr
import Derived.Laws.AppendOwn
import Derived.Lib.Bytealg
set_option linter.all false
/- A statement whose order Go leaves open: the proof. -/
set_option linter.unusedSimpArgs false
set_option linter.unusedVariables false
namespace Go.Eng
variable {P : Program} {G N : Nat} {μ μ0 : Mp} {S S0 : AH} {w w0 : World}
variable {kn : Nat → Bool} {call : Nat → List AV → AH → Option (CR × AH)} {ops : Array Oper} {its : List DI} {T : Nat → DS} {V : Nat → AV} {A : Nat → Option ABlk} {κ : Nat} {listed : Array Bool} {a : Act} {Q : Exit → Act → World → Prop}

theorem getD_replicate_false' (m j : Nat) : (Array.replicate m false).getD j false = false := by
  simp only [Array.getD_eq_getD_getElem?, Array.getElem?_replicate]
  split <;> rfl

theorem insK_ts {o : OpI} {kd : KK} {t : Nat} {k v : Opd} (h : insK o = some (kd, t, k, v)) : t ∈ o.ts := by
  unfold insK at h
  split at h
  · split at h
    · rename_i hop
      cases h
      unfold OpI.ts
      rw [hop]
      simp [IOp.ol, Opd.tmp?]
    · cases h
  · cases h

/-- room that a read may be tried in: the memory behind the last effect that has come up -/
theorem read_at (hs : ∀ (c : Nat) (d : DI), its[c]? = some d → SR kn call S0.n d (T c) (V c) (A c) (T (c + 1))) (h0 : (T 0).k = 0) {hs0 : List AH} (hh : (T κ).hs = (T κ).S :: hs0)
    (hok : DrawOk ops its) {c i lo : Nat} {o : OpI} (hc : its[c]? = some (.r i lo o)) (hκ : κ ≤ c)
    (hpre : ∀ (d : Nat) y, its[d]? = some y → y.isE = true → ((Region.before ops).getD i 0).testBit y.i = true → d < κ) :
    (T κ).S ∈ (T c).hs.take ((T c).k - lo + 1) := by
  have hlt : c < its.length := (List.getElem?_eq_some_iff.1 hc).1
  obtain ⟨k, rfl⟩ := Nat.exists_eq_add_of_le hκ
  obtain ⟨pre, h1, h2⟩ := tr_hs hs κ k (by omega)
  obtain ⟨_, hlo, hbit⟩ := hok.rd _ _ _ _ hc
  have hk := tr_k hs h0
  have hle : lo ≤ (T κ).k := by
    rw [hk κ (by omega)]
    -- else the effect number 'k' stands at or behind κ, though it is one of those that are waited for
    refine Nat.le_of_not_lt fun hgt => ?_
    have key : ∀ m, κ + m ≤ its.length → (its.take (κ + m)).countP DI.isE > (its.take κ).countP DI.isE →
        ∃ d y, its[d]? = some y ∧ y.isE = true ∧ κ ≤ d ∧ (its.take d).countP DI.isE = (its.take κ).countP DI.isE := by
      intro m
      induction m with
      | zero => intro _ h; exact absurd h (Nat.lt_irrefl _)
      | succ m ih =>
        intro hm hgt'
        have hd : its[κ + m]? = some its[κ + m] := List.getElem?_eq_getElem hm
        by_cases hg : (its.take (κ + m)).countP DI.isE > (its.take κ).countP DI.isE
        · exact ih (by omega) hg
        · have mono : (its.take κ).countP DI.isE ≤ (its.take (κ + m)).countP DI.isE := by
            refine List.Sublist.countP_le ?_
            have := (List.take_sublist κ (its.take (κ + m)))
            rwa [List.take_take, Nat.min_eq_left (by omega)] at this
          refine ⟨κ + m, _, hd, ?_, by omega, by omega⟩
          have e1 : κ + (m + 1) = κ + m + 1 := rfl
          rw [e1, List.take_succ_eq_append_getElem (show κ + m < its.length from hm), List.countP_append] at hgt'
          cases hE : (its[κ + m]).isE with
          | true => rfl
          | false => simp [hE] at hgt'; omega
    obtain ⟨d, y, hd, hy, hκd, hcnt⟩ := key k (by omega) (by omega)
    have := hpre d y hd hy (hbit d y hd hy (by omega))
    omega
  rw [h1, hh, h2]
  have e1 : (T κ).k + pre.length - lo + 1 = pre.length + ((T κ).k - lo + 1) := by omega
  rw [e1, List.take_length_add_append, List.take_succ_cons]
  exact List.mem_append_right _ List.mem_cons_self

theorem insK_spec {o : OpI} {kd : KK} {t : Nat} {k v : Opd} (h : insK o = some (kd, t, k, v)) : o.guard = none ∧ o.op = .ins kd (.t t) k v := by
  unfold insK at h
  split at h
  · rename_i hg
    split at h
    · rename_i hop
      cases h
      exact ⟨hg, hop⟩
    · cases h
  · cases h

/-- an item that is an insert of a literal is one -/
theorem lit_ins (hok : DrawOk ops its)
    (hits : ∀ (c : Nat) (d : DI), its[c]? = some d → ∃ o, ops[d.i]? = some o ∧ d.o = cio P G N ops o)
    (hlits : ∀ (c i : Nat) o l p, its[c]? = some (.m i o l) → p ∈ l → ∃ o', ops[p.1]? = some o' ∧ p.2 = cio P G N ops o')
    {c i j : Nat} {x : OpI} (hc : its[c]? = some (.n i x j)) : ∃ t kd k v, x.guard = none ∧ x.op = .ins kd (.t t) k v := by
  obtain ⟨c', o', l, p, hm1, hm2, hm3⟩ := hok.nof c i j x hc
  obtain ⟨⟨t, _, hl⟩, _⟩ := hok.mlit c' j o' l hm1
  obtain ⟨kd, k, v, hk⟩ := hl p hm2
  obtain ⟨o1, ho1, hp1⟩ := hlits c' j o' l p hm1 hm2
  obtain ⟨o2, ho2, hd2⟩ := hits c _ hc
  rw [hm3] at ho1
  simp only [DI.i] at ho2
  rw [ho1] at ho2; cases ho2
  have : x = p.2 := by rw [hp1]; exact hd2
  rw [this]
  exact ⟨t, kd, k, v, insK_spec hk⟩

theorem keyEq1_comm {x y : AV} {r : Bool} (h : keyEq1 x y = some r) : keyEq1 y x = some r := by
  cases x <;> cases y <;> simp only [keyEq1, Option.some.injEq, reduceCtorEq] at h ⊢
  · rename_i a b; cases a <;> cases b <;> simp_all
  · rename_i j a k b
    cases hj : (j == k) with
    | false => rw [hj] at h; cases h
    | true =>
      have e1 : j = k := by simpa using hj
      subst e1
      simp only [beq_self_eq_true, cond_true, Option.some.injEq] at h ⊢
      rw [ieq_eq] at h ⊢
      rw [← h]; exact Bool.beq_comm
  · rw [seq_eq] at h ⊢
    rw [← h]
    exact decide_eq_decide.2 ⟨fun e => e.symm, fun e => e.symm⟩

theorem keyEqL_comm : ∀ {l m : List AV} {r : Bool}, keyEqL l m = some r → keyEqL m l = some r
  | [], [], _, h => h
  | x :: l, y :: m, r, h => by
    rw [keyEqL_cons] at h ⊢
    cases hq : keyEq1 x y with
    | none => rw [hq] at h; cases h
    | some q =>
      rw [hq] at h
      rw [keyEq1_comm hq]
      cases q with
      | true => exact keyEqL_comm h
      | false => exact h
  | [], _ :: _, _, h => by cases h
  | _ :: _, [], _, h => by cases h

theorem keyEq_na {x y : AV} (h : ∀ l, x ≠ .agg l) : keyEq x y = keyEq1 x y := by
  cases x <;> first | rfl | exact absurd rfl (h _)

theorem keyEq_comm {x y : AV} (h : keyEq x y = some false) : keyEq y x = some false := by
  by_cases hx : ∃ l, x = .agg l
  · obtain ⟨l, rfl⟩ := hx
    by_cases hy : ∃ m, y = .agg m
    · obtain ⟨m, rfl⟩ := hy
      simp only [keyEq] at h ⊢
      cases hl : Nat.beq l.length m.length with
      | false => rw [hl] at h; cases h
      | true =>
        rw [hl, cond_true] at h
        have : Nat.beq m.length l.length = true := by rw [Nat.eq_of_beq_eq_true hl]; simp
        rw [this, cond_true]
        exact keyEqL_comm h
    · exfalso
      cases y <;> simp only [keyEq, reduceCtorEq] at h
      exact hy ⟨_, rfl⟩
  · rw [keyEq_na (fun l e => hx ⟨l, e⟩)] at h
    have h2 := keyEq1_comm h
    by_cases hy : ∃ m, y = .agg m
    · obtain ⟨m, rfl⟩ := hy
      simp [keyEq1] at h2
    · rw [keyEq_na (fun l e => hy ⟨l, e⟩)]
      exact h2

theorem keyEqS_of {S : AH} {x y : AV} {r : Bool} (h : keyEq x y = some r) : keyEqS S x y = some r := by
  cases x with
  | ptr b o => simp [keyEq, keyEq1] at h
  | nilp => simp [keyEq, keyEq1] at h
  | _ => exact h

theorem mfind_none {f : AV → Option Bool} : ∀ {es : List AEnt} {i : Nat}, (∀ e ∈ es, f e.key = some false) → mfindG f es i = some none
  | [], _, _ => rfl
  | e :: es, i, h => by
    simp only [mfindG, h e List.mem_cons_self]
    exact mfind_none fun e' he' => h e' (List.mem_cons_of_mem _ he')

/-- a block made in the statement stays as it was made, as long as there is no effect -/
theorem made_kept (hs : ∀ (c : Nat) (d : DI), its[c]? = some d → SR kn call S0.n d (T c) (V c) (A c) (T (c + 1))) (hidx : ∀ (c d : Nat) (x y : DI), its[c]? = some x → its[d]? = some y → x.i = y.i → c = d)
    {c1 : Nat} {d1 : DI} {cx : Nat} (h1 : its[c1]? = some d1) (hno : ∀ (e : Nat) (z : DI), its[e]? = some z → z.isE = true → c1 < e → ¬ e < cx) (hE : d1.isE = false := by rfl) :
    ∀ k, c1 + 1 + k ≤ cx → cx ≤ its.length → ∀ b, A c1 = some b → (T (c1 + 1 + k)).S.h.get (S0.n + d1.i) = some b
  | 0, _, _, b, hb => by
    have := ((hs c1 d1 h1).quiet hE).1
    rw [hb] at this
    rw [show c1 + 1 + 0 = c1 + 1 from rfl, this]
    simp only [AH.attach]
    rw [Tr.get_put_same]
  | k + 1, h2, h3, b, hb => by
    have ih := made_kept hs hidx h1 hno hE k (by omega) h3 b hb
    have hlt : c1 + 1 + k < its.length := by omega
    have hd : its[c1 + 1 + k]? = some its[c1 + 1 + k] := List.getElem?_eq_getElem hlt
    generalize its[c1 + 1 + k] = d at hd
    have hE' : d.isE = false := by
      cases h : d.isE with
      | false => rfl
      | true => exact absurd (show c1 + 1 + k < cx by omega) (hno _ d hd h (by omega))
    have := ((hs _ d hd).quiet hE').1
    rw [show c1 + 1 + (k + 1) = c1 + 1 + k + 1 from rfl, this]
    cases hx : A (c1 + 1 + k) with
    | none => exact ih
    | some x =>
      simp only [AH.attach]
      rw [Tr.get_put_ne _ _ (fun e => ?_), ih]
      have := hidx _ _ d d1 hd h1 (by omega)
      omega

/-- an insert of a literal comes up: its map is there, and has room for it -/
theorem lit_at (hok : DrawOk ops its)
    (hits : ∀ (c : Nat) (d : DI), its[c]? = some d → ∃ o, ops[d.i]? = some o ∧ d.o = cio P G N ops o)
    (hlits : ∀ (c i : Nat) o l p, its[c]? = some (.m i o l) → p ∈ l → ∃ o', ops[p.1]? = some o' ∧ p.2 = cio P G N ops o')
    (hs : ∀ (c : Nat) (d : DI), its[c]? = some d → SR kn call S0.n d (T c) (V c) (A c) (T (c + 1)))
    (inv : DInv P G N μ0 S0 w0 its T V A κ μ listed a w) {c i j : Nat} {x : OpI} (hc : its[c]? = some (.n i x j)) (hkc : κ ≤ c) (hun : listed.getD i false = false)
    (hdep : ∀ j, ((Region.before ops).getD i 0).testBit j = true → listed.getD j false = true) (m : Nat) :
    ∃ (c' : Nat) (o' : OpI) (l : List (Nat × OpI)) (es : List AEnt) (r : Nat) (p : Nat × OpI) (e : AEnt) (t : Nat) (kd : KK) (k v : Opd),
      its[c']? = some (.m j o' l) ∧ κ ≤ c' ∧ listed.getD j false = true ∧ A c' = some (.map es 0) ∧ l[r]? = some p ∧ p.1 = i ∧ es[r]? = some e ∧ es.length = l.length ∧
      x.guard = none ∧ x.op = .ins kd (.t t) k v ∧
      ieval kn x.op (T c).E ⟨Tr.e.put (some (.map (sel listed l es) 0)) (S0.n + j), m⟩ = some (.val .u, (⟨Tr.e.put (some (.map (sel listed l es) 0)) (S0.n + j), m⟩ : AH).set (S0.n + j) (.map (sel listed l es ++ [e]) 1)) := by
  obtain ⟨c', o', l, p, hm1, hm2, hm3⟩ := hok.nof c i j x hc
  obtain ⟨⟨t, ht, hl⟩, hnd⟩ := hok.mlit c' j o' l hm1
  obtain ⟨kd, k, v, hk⟩ := hl p hm2
  obtain ⟨o1, ho1, hp1⟩ := hlits c' j o' l p hm1 hm2
  obtain ⟨o2, ho2, hd2⟩ := hits c _ hc
  rw [hm3] at ho1
  simp only [DI.i] at ho2
  rw [ho1] at ho2; cases ho2
  have hxp : x = p.2 := by rw [hp1]; exact hd2
  obtain ⟨hg, hop⟩ := insK_spec hk
  rw [← hxp] at hg hop
  -- the maker stands ahead, and has come up
  have htin : t ∈ x.ts := by rw [hxp]; exact insK_ts hk
  have hmin := (hok.mins c' j o' l c _ p hm1 hc hm2 (by simp only [DI.i]; exact hm3.symm)).1
  have hlj : listed.getD j false = true := by
    rcases hok.look c c' _ _ t hc hm1 htin ht with e1 | e1 | e1
    · omega
    · exact hdep _ e1.2
    · omega
  -- no effect between
  have hkc' : κ ≤ c' := by
    refine Nat.le_of_not_lt fun hlt => ?_
    rcases inv.kap with h0 | ⟨y, hy, hyE⟩
    · omega
    · have hne : c' ≠ κ - 1 := by
        rintro rfl
        rw [hm1] at hy; cases hy; cases hyE
      obtain ⟨d', z, q1, q2, q3⟩ := hok.meff c' j o' l (κ - 1) y p hm1 hy hm2 hyE (by omega)
      have := inv.pre d' z q2 (by omega)
      rw [q3, hm3, hun] at this; cases this
  have hsr := hs c' _ hm1
  have hcl : c < its.length := (List.getElem?_eq_some_iff.1 hc).1
  obtain ⟨r, hr⟩ := List.getElem?_of_mem hm2
  generalize hT1 : T (c' + 1) = s1 at hsr
  generalize hVc : V c' = u at hsr
  generalize hAc : A c' = y at hsr
  cases hsr with
  | skip _ _ hm => exact absurd rfl (hm _ _ _)
  | m hg1 hop1 hmi =>
    rename_i es
    obtain ⟨q1, _, q3⟩ := mins_spec l hmi
    obtain ⟨kd', t', k', v', e, g1, g2, g3, g4, g5⟩ := q3 r p hr
    rw [hk] at g1; cases g1
    have hslot : (T c).E.get t = some (.mp (S0.n + j)) := by
      rcases tr_env hs c (Nat.le_of_lt hcl) t with ⟨c2, d2, h1, h2, h3, h4⟩ | ⟨h1, h2⟩
      · have := hok.dst c2 c' d2 _ t h2 hm1 h3 ht
        subst this
        rw [h4, hVc]
      · exact absurd ht (h1 c' _ hmin hm1)
    -- key and value were told when the map was made
    have hkeep : ∀ t' ∈ kvts p.2, (T c).E.get t' = (T c').E.get t' := by
      intro t' ht'
      rcases tr_env hs c (Nat.le_of_lt hcl) t' with ⟨c2, d2, h1, h2, h3, h4⟩ | ⟨h1, h2⟩
      · have hlt2 := hok.mwr c' j o' l c2 d2 p t' hm1 h2 hm2 ht' h3
        rcases tr_env hs c' (by omega) t' with ⟨c3, d3, i1, i2, i3, i4⟩ | ⟨i1, i2⟩
        · have := hok.dst c2 c3 d2 d3 t' h2 i2 h3 i3
          subst this
          rw [h4, i4]
        · exact absurd h3 (i1 c2 d2 hlt2 h2)
      · rcases tr_env hs c' (by omega) t' with ⟨c3, d3, i1, i2, i3, i4⟩ | ⟨i1, i2⟩
        · exact absurd i3 (h1 c3 d3 (by omega) i2)
        · rw [h2, i2]
    have hkv : opd (T c).E k = opd (T c').E k ∧ opd (T c).E v = opd (T c').E v := by
      have key : ∀ z : Opd, z = k ∨ z = v → opd (T c).E z = opd (T c').E z := by
        intro z hz
        cases z with
        | c _ => rfl
        | t t' =>
          simp only [opd]
          rw [hkeep t' ?_]
          unfold kvts
          rw [hk]
          rcases hz with rfl | rfl <;> simp [Opd.tmp?]
      exact ⟨key k (.inl rfl), key v (.inr rfl)⟩
    refine ⟨c', o', l, es, r, p, e, t, kd, k, v, hm1, hkc', hlj, hAc, hr, hm3, by simpa using g2, by simpa using q1, hg, hop, ?_⟩
    have hmf : ∀ S, mfindS S (opd (T c').E k) (sel listed l es) 0 = some none := by
      intro S
      refine mfind_none fun e' he' => keyEqS_of ?_
      obtain ⟨r', p', b1, b2, b3⟩ := sel_mem he'
      have hrr : r' ≠ r := by
        rintro rfl
        rw [hr] at b1; cases b1
        rw [hm3, hun] at b3; cases b3
      have e1 : opd (T c').E k = e.key := by rw [g3]
      rw [e1]
      rcases Nat.lt_or_gt_of_ne hrr with hlt | hlt
      · exact g5 r' e' (by simpa using hlt) b2
      · obtain ⟨kd2, t2, k2, v2, e2, f1, f2, f3, f4, f5⟩ := q3 r' p' b1
        simp only [List.length_nil, Nat.zero_add] at f2 f5 g2
        rw [b2] at f2; cases f2
        exact keyEq_comm (f5 r e hlt g2)
    rw [hop]
    have h4 : keyDesc kd (opd (T c').E k) = true := by rw [g3] at g4; exact g4
    have hget : (Tr.e.put (some (ABlk.map (sel listed l es) 0)) (S0.n + j)).get (S0.n + j) = some (.map (sel listed l es) 0) := Tr.get_put_same _ _ _
    have hslot' : opd (T c).E (.t t) = .mp (S0.n + j) := by simp only [opd, hslot]
    have hup : emapup kd (.mp (S0.n + j)) (opd (T c').E k) (opd (T c').E v) ⟨Tr.e.put (some (.map (sel listed l es) 0)) (S0.n + j), m⟩ =
        some ((⟨Tr.e.put (some (.map (sel listed l es) 0)) (S0.n + j), m⟩ : AH).set (S0.n + j) (.map (sel listed l es ++ [e]) 1)) := by
      unfold emapup
      rw [h4, cond_true]
      simp only [hget, hmf]
      rw [g3]
    show (match emapup kd (opd (T c).E (.t t)) (opd (T c).E k) (opd (T c).E v) ⟨Tr.e.put (some (.map (sel listed l es) 0)) (S0.n + j), m⟩ with
      | some S' => some (ANx.val .u, S')
      | none => none) = _
    rw [hslot', hkv.1, hkv.2, hup]

theorem draw_any (hkn : Known P kn) (hcall : CallOK P G call) (hok : DrawOk ops its)
    (hits : ∀ (c : Nat) (d : DI), its[c]? = some d → ∃ o, ops[d.i]? = some o ∧ d.o = cio P G N ops o)
    (hlits : ∀ (c i : Nat) o l p, its[c]? = some (.m i o l) → p ∈ l → ∃ o', ops[p.1]? = some o' ∧ p.2 = cio P G N ops o')
    (hs : ∀ (c : Nat) (d : DI), its[c]? = some d → SR kn call S0.n d (T c) (V c) (A c) (T (c + 1))) (h0 : (T 0).k = 0)
    (hQ : PostR P G N μ0 S0 w0 .normal (T its.length).E (T its.length).D (T its.length).S Q) :
    ∀ (fuel : Nat) (κ : Nat) (μ : Mp) (listed : Array Bool) (a : Act) (w : World), listed.size = ops.size →
      (∀ i o, ops[i]? = some o → listed.getD i false = true → ∀ e ∈ o.after, Region.binds .any e = true → listed.getD e.on false = true) →
      (List.range ops.size).countP (fun i => !listed.getD i false) ≤ fuel →
      DInv P G N μ0 S0 w0 its T V A κ μ listed a w → wpAny P .any ops Q fuel listed a w := by
  have hn : CallN call := fun f args S r S' h => (hcall f args S r S' h).1
  have hb : ∀ (c : Nat) (d : DI), its[c]? = some d → d.i < its.length := by
    intro c d hc
    obtain ⟨o, ho, _⟩ := hits c d hc
    rw [hok.len]
    exact (Array.getElem?_eq_some_iff.1 ho).1
  -- once all have come up
  have done : ∀ (κ : Nat) (μ : Mp) (listed : Array Bool) (a : Act) (w : World), (∀ i, i < ops.size → listed.getD i false = true) →
      DInv P G N μ0 S0 w0 its T V A κ μ listed a w → Q .normal a w := by
    intro κ μ listed a w hall inv
    have hl : ∀ (c : Nat) (d : DI), its[c]? = some d → listed.getD d.i false = true := fun c d hc => hall _ (by rw [← hok.len]; exact hb c d hc)
    have hkl := inv.kle
    obtain ⟨k, hk⟩ := Nat.exists_eq_add_of_le hkl
    obtain ⟨h1, h2, h3, h4, h5⟩ := inv.attach hs hb hok.idx k (by omega) (by
      intro c d hc h1 h2
      refine ⟨?_, hl c d hc⟩
      cases hE : d.isE with
      | false => rfl
      | true => have := inv.post c d hc h1 hE; rw [hl c d hc] at this; cases this) (by
      intro c i o l p hc _ _ hp
      obtain ⟨o', ho', _⟩ := hlits c i o l p hc hp
      exact hall _ (Array.getElem?_eq_some_iff.1 ho').1)
    rw [← hk] at h1 h2 h3
    refine hQ μ a w .normal h1 h2 ⟨inv.tsz, ?_⟩ ?_ rfl
    · intro t x hx
      rcases tr_env hs _ (Nat.le_refl _) t with ⟨c, d, g1, g2, g3, g4⟩ | ⟨g1, g2⟩
      · rw [g4] at hx; cases hx
        exact inv.val c d t g2 (hl c d g2) g3
      · rw [g2] at hx
        exact inv.old t x (fun c d hc _ => g1 c d (List.getElem?_eq_some_iff.1 hc).1 hc) hx
    · rw [h3]; exact inv.dr
  -- if none may come up, all have
  have stuck : ∀ (listed : Array Bool), listed.size = ops.size → Region.ready .any ops listed = [] → ∀ i, i < ops.size → listed.getD i false = true := by
    intro listed hsz hr i
    induction i using Nat.strongRecOn with
    | _ i ih =>
      intro hi
      cases hl : listed.getD i false with
      | true => rfl
      | false =>
        exfalso
        have ho : ops[i]? = some ops[i] := Array.getElem?_eq_getElem hi
        have : i ∈ Region.ready .any ops listed := by
          refine mem_ready.2 ⟨?_, _, ho, fun e he hbd => ?_⟩
          · have hi' : i < listed.size := by omega
            simp [Array.getD_eq_getD_getElem?, hi'] at hl ⊢; exact hl
          · have := hok.back i _ ho e he hbd
            exact ih e.on this (by omega)
        rw [hr] at this; cases this
  intro fuel
  induction fuel with
  | zero =>
    intro κ μ listed a w hsz hdown hcnt inv
    have hall : ∀ i, i < ops.size → listed.getD i false = true := by
      intro i hi
      have := List.countP_eq_zero.1 (Nat.le_zero.1 hcnt) i (List.mem_range.2 hi)
      simpa using this
    refine ⟨?_, done κ μ listed a w hall inv⟩
    unfold Region.ready
    refine List.filter_eq_nil_iff.2 fun i hi => ?_
    have h1 := hall i (List.mem_range.1 hi)
    have hi' : i < listed.size := by rw [hsz]; exact List.mem_range.1 hi
    simp [Array.getD_eq_getD_getElem?, hi'] at h1 ⊢
    intro h2; rw [h1] at h2; cases h2
  | succ fuel ih =>
    intro κ μ listed a w hsz hdown hcnt inv
    refine ⟨fun hr => done κ μ listed a w (stuck listed hsz hr) inv, fun i hi => ?_⟩
    obtain ⟨hun', o, ho, hall⟩ := mem_ready.1 hi
    have hio : i < ops.size := (Array.getElem?_eq_some_iff.1 ho).1
    have hun : listed.getD i false = false := by
      have hi' : i < listed.size := by omega
      simp [Array.getD_eq_getD_getElem?, hi'] at hun' ⊢; exact hun'
    obtain ⟨c, d, hc, rfl⟩ := hok.all i hio
    obtain ⟨o', ho', hdc⟩ := hits c d hc
    rw [ho] at ho'; cases ho'
    have hdep : ∀ j, ((Region.before ops).getD d.i 0).testBit j = true → listed.getD j false = true :=
      dep_listed hdown d.i (fun o' ho' => by rw [ho] at ho'; cases ho'; exact hall)
    have hsr := hs c d hc
    have hE' := inv.look hs hok hc hun hdep (fun i hi j hj => dep_listed hdown i (fun o' ho' => hdown i o' ho' hi) j hj)
    have hkc : κ ≤ c := by
      refine Nat.le_of_not_lt fun hlt => ?_
      have := inv.pre c d hc hlt
      rw [hun] at this; cases this
    have hcl : c < its.length := (List.getElem?_eq_some_iff.1 hc).1
    -- what holds of those listed, afterwards
    have hset := listed_set (listed := listed) (i := d.i) (by omega)
    have hsz' : (listed.setIfInBounds d.i true).size = ops.size := by simp [hsz]
    have hdown' : ∀ i o, ops[i]? = some o → (listed.setIfInBounds d.i true).getD i false = true → ∀ e ∈ o.after, Region.binds .any e = true → (listed.setIfInBounds d.i true).getD e.on false = true := by
      intro j oj hj hlj e he hbd
      rcases (hset _).1 hlj with h1 | h1
      · subst h1
        rw [ho] at hj; cases hj
        exact (hset _).2 (.inr (hall e he hbd))
      · exact (hset _).2 (.inr (hdown j oj hj h1 e he hbd))
    have hcnt' : (List.range ops.size).countP (fun i => !(listed.setIfInBounds d.i true).getD i false) ≤ fuel := by
      have hlt : (List.range ops.size).countP (fun i => !(listed.setIfInBounds d.i true).getD i false) < (List.range ops.size).countP (fun i => !listed.getD i false) := by
        refine count_lt (i := d.i) (fun j hj => ?_) (by rw [hun]; rfl) (by rw [(hset _).2 (.inl rfl)]; rfl) _ (List.mem_range.2 hio)
        cases hl : listed.getD j false with
        | false => rfl
        | true => rw [(hset _).2 (.inr hl)] at hj; cases hj
      omega
    have next := fun κ' μ' a' w' => ih κ' μ' (listed.setIfInBounds d.i true) a' w' hsz' hdown' hcnt'
    have hw0 := inv.ext.size
    -- the restricted environment
    have hts : ∀ t ∈ d.o.ts, (T c).E.get t = (restr (T c).E d.o.ts).get t := fun t ht => by rw [restr_get, if_pos ht]
    unfold wpOp
    simp only [ho]
    rcases cio_spec hdc with ⟨hbad, hg0⟩ | ⟨io, g, hcop, hg, hgl, hdst, hgN, hdo⟩
    · -- one that the evaluator lacks
      exfalso
      generalize T (c + 1) = s' at hsr
      generalize V c = v at hsr
      generalize A c = x at hsr
      cases hsr with
      | skip hw _ _ => rw [hg0] at hw; cases hw
      | q _ hv _ => simp only [DI.o] at hbad; rw [hbad] at hv; cases hv
      | r hw hv =>
        simp only [DI.o] at hbad
        obtain ⟨hs0, hh⟩ := inv.head
        obtain ⟨T1, h1⟩ := hv _ (read_at hs h0 hh hok hc hkc (fun j y hj hy hbit => by
          refine Nat.lt_of_not_le fun hle => ?_
          have := inv.post j y hj hle hy
          rw [hdep _ hbit] at this; cases this))
        rw [hbad] at h1; cases h1
      | m _ hop _ => simp only [DI.o] at hbad; rw [hop] at hbad; cases hbad
      | k _ _ hv => simp only [DI.o] at hbad; rw [hbad] at hv; cases hv
      | n =>
        rename_i i j x
        simp only [DI.o] at hbad
        obtain ⟨t, kd, k, v, h1, h2⟩ := lit_ins hok hits hlits hc
        rw [h2] at hbad; cases hbad
      | e he =>
        simp only [DI.o] at hbad hg0
        unfold evOp at he
        rw [hg0, hbad] at he
        cases he
    · have hdo1 : d.o.dst = o.dst := by rw [hdo]
      have hdo2 : d.o.guard = g := by rw [hdo]
      have hdo3 : d.o.op = io := by rw [hdo]
      have hdst' : dstOk N d.o.dst = true := by rw [hdo1]; exact hdst
      have wnt : ∀ {r : Bool}, want d.o.guard (T c).E = some r → Region.wanted o (yielded ops a.tmps) = r := by
        intro r hr
        rw [ts_want hts, hdo2] at hr
        exact want_sound hg hE' hgN hr
      cases hisE : d.isE with
      | false =>
        have key : ∀ {μ' : Mp} {w' : World} {v' : Value}, μ.le μ' → (∀ b L, μ' b = some L → μ b = some L ∨ b = S0.n + d.i) → Rel G μ' (T κ).S w' → Ext μ0 S0 w0 μ' (T κ).S w' →
            (∀ (c' : Nat) (d' : DI) L k, its[c']? = some d' → listed.getD d'.i false = true → κ ≤ c' → A c' = some k → μ (S0.n + d'.i) = some L → (∀ b k' L', (T κ).S.h.get b = some k' → μ b = some L' → L'.blk ≠ L.blk) → BR μ L (cont d' k listed) w → BR μ' L (cont d' k (listed.setIfInBounds d.i true)) w') →
            (∀ k, A c = some k → ∃ L, μ' (S0.n + d.i) = some L ∧ BR μ' L (cont d k (listed.setIfInBounds d.i true)) w' ∧ w.heap.size ≤ L.blk) → VR μ' (V c) v' →
            wpAny P .any ops Q fuel (listed.setIfInBounds d.i true) (a.put o.dst v') w' := by
          intro μ' w' v' h1 h2 h3 h4 h5 h6 h7
          refine next κ μ' _ _ ?_
          have := inv.step hok hsz hc hio hisE hun hdst' h1 h2 h3 h4 h5 hw0 h6 h7
          rwa [hdo1] at this
        have hcont : (∀ i o j, d ≠ .n i o j) → ∀ (c' : Nat) (d' : DI) (k : ABlk), its[c']? = some d' → cont d' k (listed.setIfInBounds d.i true) = cont d' k listed :=
          fun hn => cont_other hok hc hn (by omega)
        -- one that is not to be run
        have skip : (∀ i o j, d ≠ .n i o j) → want d.o.guard (T c).E = some false → V c = .tup [] → A c = none →
            (if Region.wanted o (yielded ops a.tmps) = true then o.wp P a w (wpAny P .any ops Q fuel (listed.setIfInBounds d.i true)) Q ∨ (o.asks P a w ∧ LetsOut Q) else wpAny P .any ops Q fuel (listed.setIfInBounds d.i true) (a.put o.dst undef) w) := by
          intro hn hw hV hA
          rw [if_neg (by rw [wnt hw]; simp)]
          exact key (fun _ _ h => h) (fun _ _ h => .inl h) inv.rel inv.ext (fun c' d' L k h1 _ _ _ _ _ h => by rw [hcont hn c' d' k h1]; exact h) (fun k h => by rw [hA] at h; cases h) (by rw [hV]; simp only [VR]; exact ⟨#[], rfl, by simp [VRL]⟩)
        -- one that reads no memory
        have quiet : (∀ i o j, d ≠ .n i o j) → want d.o.guard (T c).E = some true → ∀ (v : AV) (S1 : AH), ieval kn io (restr (T c).E d.o.ts) ⟨.e, S0.n + d.i⟩ = some (.val v, S1) → S1.n ≤ S0.n + d.i + 1 → V c = v →
            (∀ k, A c = some k → ∃ k0, S1.h.get (S0.n + d.i) = some k0 ∧ ∀ μ L w, BR μ L k0 w → BR μ L (cont d k (listed.setIfInBounds d.i true)) w) →
            (if Region.wanted o (yielded ops a.tmps) = true then o.wp P a w (wpAny P .any ops Q fuel (listed.setIfInBounds d.i true)) Q ∨ (o.asks P a w ∧ LetsOut Q) else wpAny P .any ops Q fuel (listed.setIfInBounds d.i true) (a.put o.dst undef) w) := by
          intro hn hw v S1 hv hnn hV hAk
          rw [if_pos (wnt hw)]
          have hne : ∀ b, (⟨.e, S0.n + d.i⟩ : AH).h.get b = none := fun b => Tr.get_e b
          have hR0 : Rel G μ ⟨.e, S0.n + d.i⟩ w := ⟨fun b k h => absurd (hne b) (by rw [h]; simp), fun b b' k k' L L' h => absurd (hne b) (by rw [h]; simp), fun b k h => absurd (hne b) (by rw [h]; simp), inv.rel.glob⟩
          have hfr := inv.free c _ hc hun
          have hF : Fresh μ ⟨.e, S0.n + d.i⟩ S1 := by
            intro b h1 h2
            have : b = S0.n + d.i := by simp only at h1; omega
            rw [this]; exact hfr
          obtain ⟨μ', w', h1, h2, v', h3, h4⟩ := cop_sound ⟨hkn, hgl, hR0, hE', hF⟩ hcop hv
          have hfrm : ∀ cb, cb < w.heap.size → w'.heap[cb]? = w.heap[cb]? := fun cb hcb => h2.frame cb hcb (fun b k L h => by rw [hne] at h; cases h)
          have hdom : ∀ b L, μ' b = some L → μ b = some L ∨ b = S0.n + d.i := by
            intro b L hb
            rcases h2.dom b L hb with h5 | ⟨h5, h6⟩
            · exact .inl h5
            · right; simp only at h5; omega
          have hlive : ∀ b k L', (T κ).S.h.get b = some k → μ' b = some L' → μ b = some L' := by
            intro b k L' hb hL'
            obtain ⟨L2, g1, g2⟩ := inv.rel.blk b k hb
            rw [h2.mono _ _ g1] at hL'; cases hL'; exact g1
          have hrel : Rel G μ' (T κ).S w' := by
            refine ⟨?_, ?_, inv.rel.lt, ?_⟩
            · intro b k hb
              obtain ⟨L, g1, g2⟩ := inv.rel.blk b k hb
              exact ⟨L, h2.mono _ _ g1, (g2.mono h2.mono).congr (hfrm _ g2.lt)⟩
            · intro b b' k k' L L' g1 g2 g3 g4
              exact inv.rel.inj b b' k k' L L' g1 g2 (hlive _ _ _ g1 g3) (hlive _ _ _ g2 g4)
            · intro gg hgg
              obtain ⟨r, hr⟩ := inv.rel.glob gg hgg
              exact ⟨r, h2.mono _ _ hr⟩
          have hlow := inv.low
          have hib := hb c _ hc
          have hext : Ext μ0 S0 w0 μ' (T κ).S w' := by
            have hx := inv.ext
            refine ⟨fun b L h => h2.mono _ _ (hx.mono b L h), ?_, hx.n, h2.os.trans hx.os, h2.tape.trans hx.tape, h2.output.trans hx.output, Nat.le_trans hx.size h2.size, ?_, ?_⟩
            · intro b L hL
              rcases hdom b L hL with h5 | h5
              · exact hx.dom b L h5
              · right; omega
            · intro cb hcb hno
              rw [hfrm cb (by omega), hx.frame cb hcb hno]
            · intro b k L hb hL
              exact hx.img b k L hb (hlive _ _ _ hb hL)
          have hkeep : ∀ (c' : Nat) (d' : DI) L k, its[c']? = some d' → listed.getD d'.i false = true → κ ≤ c' → A c' = some k → μ (S0.n + d'.i) = some L → (∀ b k' L', (T κ).S.h.get b = some k' → μ b = some L' → L'.blk ≠ L.blk) → BR μ L (cont d' k listed) w → BR μ' L (cont d' k (listed.setIfInBounds d.i true)) w' :=
            fun c' d' L k h1 _ _ _ _ _ hbr => by rw [hcont hn c' d' k h1]; exact (hbr.mono h2.mono).congr (hfrm _ hbr.lt)
          have hnew : ∀ k, A c = some k → ∃ L, μ' (S0.n + d.i) = some L ∧ BR μ' L (cont d k (listed.setIfInBounds d.i true)) w' ∧ w.heap.size ≤ L.blk := by
            intro k hk
            obtain ⟨k0, hk0, hbr⟩ := hAk k hk
            obtain ⟨L, g1, g2⟩ := h1.blk _ k0 hk0
            refine ⟨L, g1, hbr _ _ _ g2, ?_⟩
            rcases h2.img _ k0 L hk0 g1 with g3 | ⟨b0, k0, L0, g3, _⟩
            · exact g3
            · rw [hne] at g3; cases g3
          rw [← hV] at h4
          refine .inl ?_
          unfold Oper.wp
          rcases h3 with h3 | ⟨h3, h5⟩
          · rw [h3]
            exact key h2.mono hdom hrel hext hkeep hnew h4
          · rw [h3]
            subst h5
            exact key h2.mono hdom hrel hext hkeep hnew h4
        obtain ⟨hs0, hh⟩ := inv.head
        have hrd := fun i lo o hc' => read_at hs h0 hh hok (c := c) (i := i) (lo := lo) (o := o) hc' hkc
        have hdep' : ∀ i, listed.getD i false = true → ∀ j, ((Region.before ops).getD i 0).testBit j = true → listed.getD j false = true :=
          fun i hi j hj => dep_listed hdown i (fun o' ho' => hdown i o' ho' hi) j hj
        generalize hT' : T (c + 1) = s' at hsr
        generalize hVc : V c = v at hsr
        generalize hAc : A c = y at hsr
        cases hsr with
        | skip hw hk _ =>
          have hnn : ∀ i o j, d ≠ .n i o j := by
            rintro i o j rfl
            obtain ⟨t, kd, k, v, h1, h2⟩ := lit_ins hok hits hlits hc
            simp only [DI.o] at hw
            rw [h1] at hw; cases hw
          exact skip hnn hw hVc hAc
        | q hw hv hn1 =>
          rename_i i x S1
          have hv2 : ieval kn (DI.q i x).o.op (T c).E ⟨.e, S0.n + i⟩ = some (.val v, S1) := hv
          rw [ieval_ts hts, hdo3] at hv2
          have hv' : ieval kn io (restr (T c).E (DI.q i x).o.ts) ⟨.e, S0.n + i⟩ = some (.val v, S1) := hv2
          exact quiet (by rintro i o j h; cases h) hw v S1 hv' hn1 hVc (fun k hk => by rw [hAc] at hk; exact ⟨k, hk, fun μ L w h => h⟩)
        | m hg1 hop hmi =>
          rename_i i x l es
          have hio' : io = .mkmap := by rw [← hdo3]; exact hop
          have hv' : ieval kn io (restr (T c).E (DI.m i x l).o.ts) ⟨.e, S0.n + i⟩ = some (.val (.mp (S0.n + i)), (⟨.e, S0.n + i⟩ : AH).alloc (.map [] 0)) := by rw [hio']; rfl
          refine quiet (by rintro i o j h; cases h) (by simp only [DI.o]; rw [hg1]; rfl) _ _ hv' (by simp only [AH.alloc, DI.i]; exact Nat.le_refl _) hVc ?_
          intro k hk
          rw [hAc] at hk; cases hk
          refine ⟨.map [] 0, ?_, fun μ L w h => ?_⟩
          · simp only [AH.alloc, DI.i]; rw [Tr.get_put, if_pos rfl]
          · simp only [cont]
            rw [sel_none (fun p hp => ?_)]
            · exact h
            · -- none of its inserts has come up
              obtain ⟨⟨t, ht, hl⟩, _⟩ := hok.mlit c i x l hc
              obtain ⟨kd, kk, vv, hkk⟩ := hl p hp
              obtain ⟨o1, ho1, hp1⟩ := hlits c i x l p hc hp
              obtain ⟨cn, dn, hcn, hdn⟩ := hok.all p.1 (Array.getElem?_eq_some_iff.1 ho1).1
              obtain ⟨hlt, i', o', rfl⟩ := hok.mins c i x l cn dn p hc hcn hp hdn
              simp only [DI.i] at hdn
              subst hdn
              obtain ⟨o2, ho2, hd2⟩ := hits cn _ hcn
              simp only [DI.i, DI.o] at ho2 hd2
              rw [ho1] at ho2; cases ho2
              have hop' : o' = p.2 := by rw [hp1]; exact hd2
              have htin : t ∈ o'.ts := by rw [hop']; exact insK_ts hkk
              rcases hok.look cn c _ _ t hcn hc htin ht with e1 | e1 | e1
              · omega
              · cases hl1 : (listed.setIfInBounds (DI.m i x l).i true).getD p.1 false with
                | false => rfl
                | true =>
                  rcases (hset _).1 hl1 with e2 | e2
                  · have := hok.idx cn c _ _ hcn hc e2
                    omega
                  · have := hdep' _ e2 _ e1.2
                    rw [hun] at this; cases this
              · omega
        | r hw hv =>
          rename_i i lo x
          rw [if_pos (wnt hw)]
          have hnn : ∀ i' o' j', DI.r i lo x ≠ .n i' o' j' := by rintro _ _ _ h; cases h
          obtain ⟨S1, h1⟩ := hv _ (hrd i lo x hc (fun j y hj hy hbit => by
            refine Nat.lt_of_not_le fun hle => ?_
            have := inv.post j y hj hle hy
            exact Bool.noConfusion (this.symm.trans (hdep _ hbit))))
          have hcls := (hok.rd _ _ _ _ hc).1
          have hS1 := ieval_read hcls h1
          subst hS1
          have h1' : ieval kn (DI.r i lo x).o.op (T c).E (T κ).S = some (.val v, (T κ).S) := h1
          rw [ieval_ts hts, hdo3] at h1'
          have hF : Fresh μ (T κ).S (T κ).S := fun b h1 h2 => by omega
          obtain ⟨μ', w', g1, g2, v', g3, g4⟩ := cop_sound ⟨hkn, hgl, inv.rel, hE', hF⟩ hcop h1'
          have hdom : ∀ b L, μ' b = some L → μ b = some L ∨ b = S0.n + i := by
            intro b L hb
            rcases g2.dom b L hb with h5 | ⟨h5, h6⟩
            · exact .inl h5
            · omega
          have hkeep : ∀ (c' : Nat) (d' : DI) L k, its[c']? = some d' → listed.getD d'.i false = true → κ ≤ c' → A c' = some k → μ (S0.n + d'.i) = some L → (∀ b k' L', (T κ).S.h.get b = some k' → μ b = some L' → L'.blk ≠ L.blk) → BR μ L (cont d' k listed) w → BR μ' L (cont d' k (listed.setIfInBounds i true)) w' :=
            fun c' d' L k h1 _ _ _ _ hno hbr => by
              have := hcont hnn c' d' k h1
              simp only [DI.i] at this
              rw [this]
              exact (hbr.mono g2.mono).congr (g2.frame _ hbr.lt fun b k' L' hb _ hL' => hno b k' L' hb hL')
          rw [← hVc] at g4
          refine .inl ?_
          unfold Oper.wp
          rcases g3 with g3 | ⟨g3, h5⟩
          · rw [g3]
            exact key g2.mono hdom g1 (inv.ext.trans g2) hkeep (fun k h => by rw [hAc] at h; cases h) g4
          · rw [g3]
            subst h5
            exact key g2.mono hdom g1 (inv.ext.trans g2) hkeep (fun k h => by rw [hAc] at h; cases h) g4
        | e _ => cases hisE
        | k hw hblk hv =>
          rename_i i j x blk S1
          rw [if_pos (wnt hw)]
          have hnn : ∀ i' o' j', DI.k i x j ≠ .n i' o' j' := by rintro _ _ _ h; cases h
          obtain ⟨hcls, hbj, c1, o1, l1, m1, hc1, hpl, hno⟩ := hok.lk _ _ _ _ hc
          have hkc1 : κ ≤ c1 := by
            refine Nat.le_of_not_lt fun hlt => ?_
            rcases inv.kap with h0 | ⟨y, hy, hyE⟩
            · omega
            · exact hno (κ - 1) y hy hyE (by omega) (by omega)
          have hlj : listed.getD j false = true := hdep _ hbj
          have hsr1 := hs c1 _ m1
          have hkept := made_kept hs (fun c d x y h1 h2 => hok.idx c d x y h1 h2) m1 (cx := c) (fun e z h1 h2 h3 h4 => hno e z h1 h2 (by omega) h4) rfl (c - (c1 + 1)) (by omega) (by omega)
          have ec : c1 + 1 + (c - (c1 + 1)) = c := by omega
          rw [ec] at hkept
          generalize hT2 : T (c1 + 1) = s2 at hsr1
          generalize hV2 : V c1 = v2 at hsr1
          generalize hA2 : A c1 = y2 at hsr1
          cases hsr1 with
          | skip _ _ hm => exact absurd rfl (hm _ _ _)
          | m hg1 hop1 hmi =>
            rename_i es
            have hk2 := hkept _ hA2
            simp only [DI.i] at hk2
            rw [hk2] at hblk
            cases hblk
            obtain ⟨q1, _, _⟩ := mins_spec l1 hmi
            obtain ⟨L, L1, L2, L3, L4⟩ := inv.det c1 _ _ m1 hlj hkc1 hA2
            simp only [DI.i, cont] at L1 L2
            rw [sel_full (by simpa using q1) fun p hp => hdep _ (hpl p hp)] at L2
            have hlow := inv.low
            have hjl := hb c1 _ m1
            simp only [DI.i] at hjl
            generalize hSt : (⟨Tr.e.put (some (.map es 0)) (S0.n + j), S0.n + j + 1⟩ : AH) = St at hv
            have hget : ∀ b k, St.h.get b = some k → b = S0.n + j ∧ k = .map es 0 := by
              intro b k hb
              rw [← hSt] at hb
              simp only at hb
              rw [Tr.get_put] at hb
              split at hb
              · rename_i e1; cases hb; exact ⟨e1.symm, rfl⟩
              · rw [Tr.get_e] at hb; cases hb
            have hRt : Rel G μ St w := by
              refine ⟨?_, ?_, ?_, inv.rel.glob⟩
              · intro b k hb
                obtain ⟨rfl, rfl⟩ := hget b k hb
                exact ⟨L, L1, L2⟩
              · intro b b' k k' _ _ hb hb' _ _ _
                rw [(hget b k hb).1, (hget b' k' hb').1]
              · intro b k hb
                rw [(hget b k hb).1, ← hSt]
                simp only; omega
            have hS1 := ieval_read hcls hv
            rw [hS1] at hv
            have hv' : ieval kn (DI.k i x j).o.op (T c).E St = some (.val v, St) := hv
            rw [ieval_ts hts, hdo3] at hv'
            have hF : Fresh μ St St := fun b h1 h2 => by omega
            obtain ⟨μ', w', g1, g2, v', g3, g4⟩ := cop_sound ⟨hkn, hgl, hRt, hE', hF⟩ hcop hv'
            have hdom0 : ∀ b L', μ' b = some L' → μ b = some L' := by
              intro b L' hb
              rcases g2.dom b L' hb with h5 | ⟨h5, h6⟩
              · exact h5
              · omega
            have hfrm : ∀ cb, cb < w.heap.size → L.blk ≠ cb → w'.heap[cb]? = w.heap[cb]? := by
              intro cb hcb hne
              refine g2.frame cb hcb fun b k L' hb _ hL' => ?_
              obtain ⟨rfl, rfl⟩ := hget b k hb
              rw [L1] at hL'; cases hL'
              exact hne
            have hlive : ∀ b k L', (T κ).S.h.get b = some k → μ' b = some L' → μ b = some L' := fun b k L' _ hL' => hdom0 b L' hL'
            have hrel : Rel G μ' (T κ).S w' := by
              refine ⟨?_, ?_, inv.rel.lt, ?_⟩
              · intro b k hb
                obtain ⟨L', f1, f2⟩ := inv.rel.blk b k hb
                exact ⟨L', g2.mono _ _ f1, (f2.mono g2.mono).congr (hfrm _ f2.lt fun e1 => L4 b k L' hb f1 e1.symm)⟩
              · intro b b' k k' L' L'' f1 f2 f3 f4
                exact inv.rel.inj b b' k k' L' L'' f1 f2 (hlive _ _ _ f1 f3) (hlive _ _ _ f2 f4)
              · intro gg hgg
                obtain ⟨r, hr⟩ := inv.rel.glob gg hgg
                exact ⟨r, g2.mono _ _ hr⟩
            have hext : Ext μ0 S0 w0 μ' (T κ).S w' := by
              have hx := inv.ext
              refine ⟨fun b L h => g2.mono _ _ (hx.mono b L h), ?_, hx.n, g2.os.trans hx.os, g2.tape.trans hx.tape, g2.output.trans hx.output, Nat.le_trans hx.size g2.size, ?_, ?_⟩
              · intro b L' hL'
                exact hx.dom b L' (hdom0 b L' hL')
              · intro cb hcb hno
                rw [hfrm cb (by omega) (by omega), hx.frame cb hcb hno]
              · intro b k L' hb' hL'
                exact hx.img b k L' hb' (hlive _ _ _ hb' hL')
            have hnew0 : ∃ L', μ' (S0.n + j) = some L' ∧ BR μ' L' (.map es 0) w' := by
              refine g1.blk (S0.n + j) _ ?_
              rw [← hSt]
              simp only
              rw [Tr.get_put_same]
            obtain ⟨L', f1, f2⟩ := hnew0
            have eL := hdom0 _ _ f1
            rw [L1] at eL; cases eL
            have hkeep : ∀ (c' : Nat) (d' : DI) L k, its[c']? = some d' → listed.getD d'.i false = true → κ ≤ c' → A c' = some k → μ (S0.n + d'.i) = some L → (∀ b k' L', (T κ).S.h.get b = some k' → μ b = some L' → L'.blk ≠ L.blk) → BR μ L (cont d' k listed) w → BR μ' L (cont d' k (listed.setIfInBounds i true)) w' := by
              intro c2 d2 L2' k2 n1 n2 n3 n4 n5 n6 n7
              have hcc := hcont hnn c2 d2 k2 n1
              simp only [DI.i] at hcc
              rw [hcc]
              by_cases ec : c2 = c1
              · subst ec
                rw [m1] at n1; cases n1
                rw [hA2] at n4; cases n4
                simp only [DI.i] at n5
                rw [L1] at n5; cases n5
                simp only [cont]
                rw [sel_full (by simpa using q1) fun p hp => hdep _ (hpl p hp)]
                exact f2
              · have hne : L.blk ≠ L2'.blk := by
                  intro e1
                  exact ec (inv.dist c2 c1 d2 _ k2 _ L2' L n1 m1 n2 hlj n3 hkc1 n4 hA2 n5 L1 e1.symm)
                exact (n7.mono g2.mono).congr (hfrm _ n7.lt hne)
            rw [← hVc] at g4
            refine .inl ?_
            unfold Oper.wp
            rcases g3 with g3 | ⟨g3, h5⟩
            · rw [g3]
              exact key g2.mono (fun b L h => .inl (hdom0 b L h)) hrel hext hkeep (fun k h => by rw [hAc] at h; cases h) g4
            · rw [g3]
              subst h5
              exact key g2.mono (fun b L h => .inl (hdom0 b L h)) hrel hext hkeep (fun k h => by rw [hAc] at h; cases h) g4
        | n =>
          rename_i i j x
          obtain ⟨c', o', l, es, r, p, e, t, kd, kk, vv, m1, m2, m3, m4, m5, m6, m7, m8, m9, m10, m11⟩ := lit_at hok hits hlits hs inv hc hkc hun hdep (T κ).S.n
          have hwant : want (DI.n i x j).o.guard (T c).E = some true := by simp only [DI.o]; rw [m9]; rfl
          rw [if_pos (wnt hwant)]
          have hlow := inv.low
          have hjl := hb c' _ m1
          simp only [DI.i] at hjl
          obtain ⟨L, L1, L2, L3, L4⟩ := inv.det c' _ _ m1 m3 m2 m4
          simp only [DI.i, cont] at L1 L2
          generalize hSt : (⟨Tr.e.put (some (.map (sel listed l es) 0)) (S0.n + j), (T κ).S.n⟩ : AH) = St at m11
          have hget : ∀ b k, St.h.get b = some k → b = S0.n + j ∧ k = .map (sel listed l es) 0 := by
            intro b k hb
            rw [← hSt] at hb
            simp only at hb
            rw [Tr.get_put] at hb
            split at hb
            · rename_i e1; cases hb; exact ⟨e1.symm, rfl⟩
            · rw [Tr.get_e] at hb; cases hb
          have hn0 : St.n = (T κ).S.n := by rw [← hSt]
          have hRt : Rel G μ St w := by
            refine ⟨?_, ?_, ?_, inv.rel.glob⟩
            · intro b k hb
              obtain ⟨rfl, rfl⟩ := hget b k hb
              exact ⟨L, L1, L2⟩
            · intro b b' k k' _ _ hb hb' _ _ _
              rw [(hget b k hb).1, (hget b' k' hb').1]
            · intro b k hb
              rw [(hget b k hb).1, hn0]
              omega
          have hF : Fresh μ St (St.set (S0.n + j) (.map (sel listed l es ++ [e]) 1)) := by
            intro b h1 h2
            simp only [AH.set] at h2
            omega
          have m11' : ieval kn (DI.n i x j).o.op (T c).E St = some (.val .u, St.set (S0.n + j) (.map (sel listed l es ++ [e]) 1)) := m11
          rw [ieval_ts hts, hdo3] at m11'
          obtain ⟨μ', w', g1, g2, v', g3, g4⟩ := cop_sound ⟨hkn, hgl, hRt, hE', hF⟩ hcop m11'
          have hfrm : ∀ cb, cb < w.heap.size → L.blk ≠ cb → w'.heap[cb]? = w.heap[cb]? := by
            intro cb hcb hne
            refine g2.frame cb hcb fun b k L' hb _ hL' => ?_
            obtain ⟨rfl, rfl⟩ := hget b k hb
            rw [L1] at hL'; cases hL'
            exact hne
          have hdom0 : ∀ b L', μ' b = some L' → μ b = some L' := by
            intro b L' hb
            rcases g2.dom b L' hb with h5 | ⟨h5, h6⟩
            · exact h5
            · simp only [AH.set] at h6; omega
          have hlive : ∀ b k L', (T κ).S.h.get b = some k → μ' b = some L' → μ b = some L' := fun b k L' _ hL' => hdom0 b L' hL'
          have hrel : Rel G μ' (T κ).S w' := by
            refine ⟨?_, ?_, inv.rel.lt, ?_⟩
            · intro b k hb
              obtain ⟨L', f1, f2⟩ := inv.rel.blk b k hb
              exact ⟨L', g2.mono _ _ f1, (f2.mono g2.mono).congr (hfrm _ f2.lt fun e1 => L4 b k L' hb f1 e1.symm)⟩
            · intro b b' k k' L' L'' f1 f2 f3 f4
              exact inv.rel.inj b b' k k' L' L'' f1 f2 (hlive _ _ _ f1 f3) (hlive _ _ _ f2 f4)
            · intro gg hgg
              obtain ⟨r, hr⟩ := inv.rel.glob gg hgg
              exact ⟨r, g2.mono _ _ hr⟩
          have hext : Ext μ0 S0 w0 μ' (T κ).S w' := by
            have hx := inv.ext
            refine ⟨fun b L h => g2.mono _ _ (hx.mono b L h), ?_, hx.n, g2.os.trans hx.os, g2.tape.trans hx.tape, g2.output.trans hx.output, Nat.le_trans hx.size g2.size, ?_, ?_⟩
            · intro b L' hL'
              exact hx.dom b L' (hdom0 b L' hL')
            · intro cb hcb hno
              rw [hfrm cb (by omega) (by omega), hx.frame cb hcb hno]
            · intro b k L' hb' hL'
              exact hx.img b k L' hb' (hlive _ _ _ hb' hL')
          have hnew0 : ∃ L', μ' (S0.n + j) = some L' ∧ BR μ' L' (.map (sel listed l es ++ [e]) 1) w' := by
            refine g1.blk (S0.n + j) _ ?_
            simp only [AH.set]
            rw [Tr.get_put_same]
          obtain ⟨L', f1, f2⟩ := hnew0
          have eL := hdom0 _ _ f1
          rw [L1] at eL; cases eL
          have hkeep : ∀ (c' : Nat) (d' : DI) L k, its[c']? = some d' → listed.getD d'.i false = true → κ ≤ c' → A c' = some k → μ (S0.n + d'.i) = some L → (∀ b k' L', (T κ).S.h.get b = some k' → μ b = some L' → L'.blk ≠ L.blk) → BR μ L (cont d' k listed) w → BR μ' L (cont d' k (listed.setIfInBounds i true)) w' := by
            intro c2 d2 L2' k2 n1 n2 n3 n4 n5 n6 n7
            by_cases ec : c2 = c'
            · subst ec
              rw [m1] at n1; cases n1
              rw [m4] at n4; cases n4
              simp only [DI.i] at n5
              rw [L1] at n5; cases n5
              simp only [cont]
              refine BR.perm ?_ f2
              have hp := sel_set (listed := listed) (listed' := listed.setIfInBounds i true) (i := i) hset hun (hok.mlit c2 j o' l m1).2 m5 m6 m7
              exact (List.perm_append_comm (l₁ := sel listed l es) (l₂ := [e])).trans hp.symm
            · have hne : L.blk ≠ L2'.blk := by
                intro e1
                exact ec (inv.dist c2 c' d2 _ k2 _ L2' L n1 m1 n2 m3 n3 m2 n4 m4 n5 L1 e1.symm)
              have hcc : cont d2 k2 (listed.setIfInBounds i true) = cont d2 k2 listed := by
                cases d2 with
                | m i2 o2 l2 =>
                  cases k2 with
                  | map es2 ck2 =>
                    simp only [cont]
                    rw [sel_congr fun p2 hp2 => ?_]
                    by_cases e1 : i = p2.1
                    · obtain ⟨_, i', o', e2⟩ := hok.mins c2 i2 o2 l2 c _ p2 n1 hc hp2 e1
                      cases e2
                      exact absurd (hok.idx c2 c' _ _ n1 m1 rfl) ec
                    · exact getD_set_ne false e1
                  | _ => rfl
                | _ => rfl
              rw [hcc]
              exact (n7.mono g2.mono).congr (hfrm _ n7.lt hne)
          refine .inl ?_
          unfold Oper.wp
          have hfin := fun (z : Value) => key (v' := z) g2.mono (fun b L h => .inl (hdom0 b L h)) hrel hext hkeep (fun k h => by rw [hAc] at h; cases h) (by rw [hVc]; simp only [VR])
          rcases g3 with g3 | ⟨g3, h5⟩
          · rw [g3]
            exact hfin _
          · rw [g3]
            exact hfin _
      | true =>
        -- all that stand ahead of it have come up
        have hahead : ∀ (c' : Nat) (d' : DI), its[c']? = some d' → c' < c → listed.getD d'.i false = true :=
          fun c' d' h1 h2 => hdep _ (hok.eff c c' d d' hc h1 hisE h2)
        obtain ⟨k, rfl⟩ := Nat.exists_eq_add_of_le hkc
        obtain ⟨h1, h2, h3, h4, h5⟩ := inv.attach hs hb hok.idx k (by omega) (by
          intro c' d' hc' g1 g2
          refine ⟨?_, hahead c' d' hc' g2⟩
          cases hE : d'.isE with
          | false => rfl
          | true => have := inv.post c' d' hc' g1 hE; rw [hahead c' d' hc' g2] at this; cases this) (by
          intro c' i o1 l p hc' _ g2 hp
          obtain ⟨d2, z, q1, q2, q3⟩ := hok.meff c' i o1 l _ d p hc' hc hp hisE g2
          rw [← q3]
          exact hahead d2 z q2 q1)
        have hrun := hsr.run hisE
        have heff := hsr.eff hisE
        obtain ⟨u, hu, hrun'⟩ := evOp_ts hts hrun
        -- the value is the one told
        have hmono : (T (κ + k + 1)).S.n ≤ (T its.length).S.n := by
          obtain ⟨m, hm⟩ := Nat.exists_eq_add_of_le (show κ + k + 1 ≤ its.length by omega)
          rw [hm]
          have := tr_n hn hs m (κ + k + 1) (by omega)
          exact this
        have hF : Fresh μ (T (κ + k)).S (T (κ + k + 1)).S := by
          intro b g1 g2
          exact inv.fresh b (by omega) (by omega)
        have after : ∀ (μ' : Mp) (a' : Act) (w' : World) (v' : Value), Rel G μ' (T (κ + k + 1)).S w' → Ext μ (T (κ + k)).S w μ' (T (κ + k + 1)).S w' → (∀ t, d.o.dst = some t → VR μ' (V (κ + k)) v') → DRL P μ' (T (κ + k + 1)).D a'.defers →
            a'.tmps = (a.put d.o.dst v').tmps → wpAny P .any ops Q fuel (listed.setIfInBounds d.i true) a' w' := by
          intro μ' a' w' v' g1 g2 g3 g4 g5
          exact next (κ + k + 1) μ' a' w' (inv.stepE hok hsz hc hio hdst' hahead h2 h4 h5 hb (hsr.mono hn) g1 g2 g3 g4 g5 hisE (cont_other hok hc (by rintro i o j rfl; cases hisE) (by omega)) heff.1)
        have same : ∀ (u : AV) (t : Nat) (E : Env), putO E d.o.dst (V (κ + k)) = putO E d.o.dst u → d.o.dst = some t → V (κ + k) = u := by
          intro u t E hp ht
          rw [ht] at hp
          simp only [putO] at hp
          have := congrArg (fun E => Tr.get E t) hp
          simp only [Tr.get_put, if_true] at this
          cases this; rfl
        cases hw : want d.o.guard (T (κ + k)).E with
        | none => unfold evOp at hrun; rw [hw] at hrun; cases hrun
        | some r =>
          cases r with
          | false =>
            rw [if_neg (by rw [wnt hw]; simp)]
            unfold evOp at hrun
            rw [hw] at hrun
            simp only [Option.some.injEq, Prod.mk.injEq, true_and] at hrun
            obtain ⟨q1, q2, q3⟩ := hrun
            have hF0 : Ext μ (T (κ + k)).S w μ (T (κ + k + 1)).S w := by rw [← q3]; exact Ext.refl _ _ _
            refine after μ _ w undef (by rw [← q3]; exact h1) hF0 ?_ ?_ (by rw [hdo1])
            · intro t ht
              rw [same _ t _ q1.symm ht]
              simp only [VR]; exact ⟨#[], rfl, by simp [VRL]⟩
            · rw [← q2, h3]
              exact DRL.put inv.dr _ _
          | true =>
            rw [if_pos (wnt hw)]
            rw [hdo] at hrun'
            refine .inl ?_
            have hwr : want g (restr (T (κ + k)).E d.o.ts) = some true := by rw [← hdo2, ← ts_want hts]; exact hw
            rw [hdo] at hE' hwr
            exact (evOp_upon hkn hcall hcop hgl hdst h1 hE' (by rw [h3]; exact inv.dr) hwr hrun' hF
              (K := wpAny P .any ops Q fuel (listed.setIfInBounds d.i true)) (Q := Q)
              (fun _ μ' a' w' q1 q2 q3 q4 ⟨v, v', q5, q6, q7⟩ => by
                refine after μ' a' w' v' q1 q2 (fun t ht => ?_) q4 (by rw [hdo1]; exact q7)
                have e1 := same u t _ hu ht
                rw [e1]
                rw [hdo1] at ht
                simp only [ht, putO] at q5
                have := congrArg (fun E => Tr.get E t) q5
                simp only [Tr.get_put, if_true] at this
                cases this; exact q6)
              (fun v hv => by cases hv)).1

/-- the statement as a whole -/
theorem draw_sound (hm : P.follows .mixedOrders = true) (hkn : Known P kn) (hcall : CallOK P G call) (hok : DrawOk ops its)
    (hits : ∀ (c : Nat) (d : DI), its[c]? = some d → ∃ o, ops[d.i]? = some o ∧ d.o = cio P G N ops o)
    (hlits : ∀ (c i : Nat) o l p, its[c]? = some (.m i o l) → p ∈ l → ∃ o', ops[p.1]? = some o' ∧ p.2 = cio P G N ops o')
    {id : Nat} {E : Env} {D : List AD} (hR : Rel G μ S w) (hE : EnvR N μ E a) (hD : DRL P μ D a.defers) {s' : DS}
    (h : evDraw kn call S.n its ⟨E, D, ⟨S.h, S.n + its.length⟩, [⟨S.h, S.n + its.length⟩], 0⟩ = some s') (hf : Fresh μ S s'.S)
    (hQ : PostR P G N μ S w .normal s'.E s'.D s'.S Q) : (Code.region id ops true).wp P Q a w := by
  have hn : CallN call := fun f args S r S' h => (hcall f args S r S' h).1
  obtain ⟨T, V, A, h0, h1, hs⟩ := trace its _ _ h
  refine wp_region_any hm ?_
  subst h1
  have hw1 : Rel G μ ⟨S.h, S.n + its.length⟩ { w with drawn := w.drawn + 1 } := by
    have hR' := hR.congr (w' := { w with drawn := w.drawn + 1 }) rfl
    exact ⟨hR'.blk, hR'.inj, fun b k hb => by have := hR'.lt b k hb; simp only; omega, hR'.glob⟩
  have hx1 : Ext μ S w μ ⟨S.h, S.n + its.length⟩ { w with drawn := w.drawn + 1 } :=
    ⟨fun _ _ h => h, fun _ _ h => .inl h, by simp, rfl, rfl, rfl, Nat.le_refl _, fun _ _ _ => rfl, fun b k L h h' => .inr ⟨b, k, L, h, h', rfl, fun hh => hh⟩⟩
  have hnn : S.n + its.length ≤ (T its.length).S.n := by
    have := tr_n hn hs its.length 0 (by omega)
    rw [h0] at this
    simpa using this
  refine draw_any (S0 := S) (w0 := w) hkn hcall hok hits hlits hs (by rw [h0]) hQ ops.size 0 μ _ a _ (by simp) ?_ ?_ ?_
  · intro i o ho hl
    rw [getD_replicate_false'] at hl; cases hl
  · exact Nat.le_trans List.countP_le_length (by simp)
  · have nl : ∀ (j : Nat) (p : Prop), (Array.replicate ops.size false).getD j false = true → p := by
      intro j p hl
      rw [getD_replicate_false'] at hl; cases hl
    refine ⟨Nat.zero_le _, fun c d _ h => absurd h (Nat.not_lt_zero _), fun c d _ _ _ => getD_replicate_false' _ _, ⟨[], by rw [h0]⟩, by rw [h0]; exact hw1, by rw [h0]; exact hx1, by rw [h0]; exact hD,
      fun c d t _ hl => nl _ _ hl, ?_, hE.size, fun c d k _ hl => nl _ _ hl, fun c c' d d' k k' L L' _ _ hl => nl _ _ hl, ?_, ?_, by rw [h0]; exact Nat.le_refl _, .inl rfl⟩
    · intro t x _ hx
      rw [h0] at hx
      exact hE.get t x hx
    · intro c d hc _
      obtain ⟨o, ho, _⟩ := hits c d hc
      have := (Array.getElem?_eq_some_iff.1 ho).1
      have := hok.len
      exact hf _ (by omega) (by omega)
    · intro b q1 q2
      rw [h0] at q1
      simp only at q1
      exact hf b (by omega) q2

end Go.Eng

/- The evaluator's code does what the model's does: code. -/
set_option linter.unusedSimpArgs false
set_option linter.unusedVariables false
namespace Go.Eng
variable {P : Program} {G N : Nat} {μ : Mp} {S S' : AH} {w : World}
variable {kn : Nat → Bool} {call : Nat → List AV → AH → Option (CR × AH)} {a : Act} {Q : Exit → Act → World → Prop}

theorem PostR.after {μ1 : Mp} {S1 : AH} {w1 : World} {x : AX} {E' : Env} {D' : List AD} (h : PostR P G N μ S w x E' D' S' Q) (he : Ext μ S w μ1 S1 w1) : PostR P G N μ1 S1 w1 x E' D' S' Q :=
  fun μ' a' w' e h1 h2 h3 h4 h5 => h μ' a' w' e h1 (he.trans h2) h3 h4 h5

theorem evOps_sound (hkn : Known P kn) (hcall : CallOK P G call) {ops : Array Oper} : ∀ (l : List Oper) (k : Nat), (∀ j, l[j]? = ops[k + j]?) →
    ∀ {E E' : Env} {D D' : List AD} {S S' : AH} {x : AX} {μ : Mp} {a : Act} {w : World}, evOps kn call (l.map (cio P G N ops)) E D S = some (x, E', D', S') →
      Rel G μ S w → EnvR N μ E a → DRL P μ D a.defers → Fresh μ S S' → PostR P G N μ S w x E' D' S' Q → wpOps P ops Q (List.range' k l.length) a w
  | [], k, _, E, E', D, D', S, S', x, μ, a, w, h, hR, hE, hD, hf, hQ => by
    simp only [List.map_nil] at h
    rw [evOps_nil] at h
    cases h
    exact hQ μ a w .normal hR (Ext.refl _ _ _) hE hD rfl
  | o :: l, k, hl, E, E', D, D', S, S', x, μ, a, w, h, hR, hE, hD, hf, hQ => by
    have hn : CallN call := fun f args S r S' h => (hcall f args S r S' h).1
    have ho : ops[k]? = some o := by simpa using (hl 0).symm
    simp only [List.map_cons] at h
    rw [evOps_cons] at h
    split at h
    · cases h
    · rename_i p E1 D1 S1 he
      have hnext : ∀ {μ1 : Mp} {a1 : Act} {w1 : World}, p = none → Rel G μ1 S1 w1 → Ext μ S w μ1 S1 w1 → EnvR N μ1 E1 a1 → DRL P μ1 D1 a1.defers → wpOps P ops Q (List.range' (k + 1) l.length) a1 w1 := by
        intro μ1 a1 w1 hp h1 h2 h3 h4
        subst hp
        exact evOps_sound hkn hcall l (k + 1) (fun j => by have := hl (j + 1); simpa [Nat.add_assoc, Nat.add_comm 1 j] using this) h h1 h3 h4 (hf.right h2) (hQ.after h2)
      have hf1 : Fresh μ S S1 := by
        refine hf.left ?_
        cases p with
        | none => exact n_evOps hn _ h
        | some v => cases h; exact Nat.le_refl _
      simp only [List.length_cons, List.range'_succ]
      unfold wpOps
      simp only [ho]
      rcases cio_spec (x := cio P G N ops o) rfl with ⟨hbad, hg0⟩ | ⟨io, g, hcop, hg, hgl, hdst, hgN, hdo⟩
      · exfalso
        unfold evOp at he
        rw [hg0, hbad] at he
        cases he
      · rw [hdo] at he
        cases hw : want g E with
        | none => unfold evOp at he; rw [hw] at he; cases he
        | some r =>
          cases r with
          | false =>
            rw [if_neg (by rw [want_sound hg hE hgN hw]; simp)]
            unfold evOp at he
            rw [hw] at he
            cases he
            exact hnext rfl hR (Ext.refl _ _ _) (hE.put hdst (by simp only [VR]; exact ⟨#[], rfl, by simp [VRL]⟩)) (hD.put _ _)
          | true =>
            rw [if_pos (want_sound hg hE hgN hw)]
            refine .inl ?_
            refine (evOp_upon hkn hcall hcop hgl hdst hR hE hD hw he hf1 ?_ ?_).1
            · intro hp μ1 a1 w1 h1 h2 h3 h4 _
              exact hnext hp h1 h2 h3 h4
            · rintro v rfl ⟨rfl, rfl⟩ μ1 w1 t v' h1 h2 h3
              cases h
              exact hQ μ1 a w1 _ h1 h2 (hE.mono h2.mono) (hD.mono h2.mono) ⟨t, v', rfl, h3⟩

/-! loops -/

def LoopWp (P : Program) (c : Code) (Q : Exit → Act → World → Prop) (a : Act) (w : World) : Prop :=
  ∀ (b : Frame) (k : List Item) (cs : List Frame), ∃ e a' w', Q e a' w' ∧ Arrives P (lone (b.at a (.code c :: .inLoop c :: k)) cs w) b k cs e a' w'

theorem LoopWp.wp {c : Code} (h : LoopWp P c Q a w) : (Code.loop c).wp P Q a w :=
  fun b k cs => let ⟨e, a', w', q, r⟩ := h b k cs; ⟨e, a', w', q, .of_steps (.one step_loop) r⟩

theorem LoopWp.round {c : Code} (h : c.wp P (Exit.then (LoopWp P c Q) Q) a w) : LoopWp P c Q a w := by
  intro b k cs
  obtain ⟨e, a₁, w₁, hq, harr⟩ := h b (.inLoop c :: k) cs
  cases e with
  | normal =>
    obtain ⟨e₂, a₂, w₂, hq₂, harr₂⟩ := hq b k cs
    exact ⟨e₂, a₂, w₂, hq₂, .of_steps (Steps.trans harr (.one step_inLoop)) harr₂⟩
  | exit id => exact ⟨_, a₁, w₁, hq, .pass (x := .inLoop c) rfl (fun _ _ => .inl (by simp)) harr⟩
  | goto l => exact ⟨_, a₁, w₁, hq, .pass (x := .inLoop c) rfl (fun _ _ => .inl (by simp)) harr⟩
  | ret => exact ⟨_, a₁, w₁, hq, .pass (x := .inLoop c) rfl (fun _ _ => .inl (by simp)) harr⟩
  | panic ch => exact ⟨_, a₁, w₁, hq, .pass (x := .inLoop c) rfl (fun _ _ => .inl (by simp)) harr⟩
  | outgrown => exact ⟨_, a₁, w₁, hq, .pass (x := .inLoop c) rfl (fun _ _ => .inl (by simp)) harr⟩

/-! code -/

def KOK (P : Program) (N : Nat) (c : Code) (k : K) : Prop :=
  ∀ E D S x E' D' S', k E D S = some (x, E', D', S') → S.n ≤ S'.n ∧
    ∀ μ w a Q, Rel P.globals.size μ S w → EnvR N μ E a → DRL P μ D a.defers → Fresh μ S S' → PostR P P.globals.size N μ S w x E' D' S' Q → c.wp P Q a w

def LoopOK (P : Program) (N : Nat) (c : Code) (k : K) : Prop :=
  ∀ E D S x E' D' S', k E D S = some (x, E', D', S') → S.n ≤ S'.n ∧
    ∀ μ w a Q, Rel P.globals.size μ S w → EnvR N μ E a → DRL P μ D a.defers → Fresh μ S S' → PostR P P.globals.size N μ S w x E' D' S' Q → LoopWp P c Q a w

theorem cond_sound {E : Env} {a : Act} (hE : EnvR N μ E a) {c : Operand} {x : Opd} {t : Bool} (hc : copd c = some x) (hx : opd E x = .bool t) : a.eval c = .bool t := by
  cases c with
  | tmp i =>
    simp only [copd, Option.some.injEq] at hc
    subst hc
    simp only [opd] at hx
    split at hx
    · rename_i v hv
      subst hx
      have := hE.get i _ hv
      simp only [VR] at this
      exact this
    · cases hx
  | const v =>
    simp only [copd] at hc
    split at hc
    · rename_i y hy
      simp only [Option.some.injEq] at hc
      subst hc
      simp only [opd] at hx
      subst hx
      have := cval_sound (μ := μ) hy
      simp only [VR] at this
      exact this
    · cases hc
  | global g => simp only [copd, Option.some.injEq] at hc; subst hc; cases hx
  | func g => simp only [copd, Option.some.injEq] at hc; subst hc; cases hx

/-- how what an inner code comes to is handed on -/
theorem PostR.then {x : AX} {E' E2 : Env} {D' D2 : List AD} {S1 S2 : AH} {K : Act → World → Prop} (hx : x ≠ .normal) (h : PostR P G N μ S w x E' D' S1 Q) : PostR P G N μ S w x E' D' S1 (Exit.then K Q) := by
  intro μ' a' w' e h1 h2 h3 h4 h5
  have := h μ' a' w' e h1 h2 h3 h4 h5
  cases x with
  | normal => exact absurd rfl hx
  | exit id => simp only [XR] at h5; subst h5; exact this
  | ret => simp only [XR] at h5; subst h5; exact this
  | pan v => simp only [XR] at h5; obtain ⟨t, v', rfl, _⟩ := h5; exact this

theorem loop_ok {c : Code} {k : K} (hc : KOK P N c k) : ∀ lf, LoopOK P N c (kLoop k lf)
  | 0 => fun E D S x E' D' S' h => by cases h
  | lf + 1 => by
    have hloop := loop_ok hc lf
    intro E D S x E' D' S' h
    have h : kSeq k (kLoop k lf) E D S = some (x, E', D', S') := h
    unfold kSeq at h
    split at h
    · cases h
    · rename_i x1 E1 D1 S1 h1
      obtain ⟨n1, k1⟩ := hc _ _ _ _ _ _ _ h1
      cases x1 with
      | normal =>
        obtain ⟨n2, k2⟩ := hloop _ _ _ _ _ _ _ h
        refine ⟨Nat.le_trans n1 n2, fun μ w a Q hR hE hD hf hQ => LoopWp.round (k1 μ w a _ hR hE hD (hf.left n2) ?_)⟩
        intro μ1 a1 w1 e g1 g2 g3 g4 g5
        simp only [XR] at g5
        subst g5
        exact k2 μ1 w1 a1 Q g1 g3 g4 (hf.right g2) (hQ.after g2)
      | exit id => cases h; exact ⟨n1, fun μ w a Q hR hE hD hf hQ => LoopWp.round (k1 μ w a _ hR hE hD hf (hQ.then (E2 := E) (D2 := D) (S2 := S) (by simp)))⟩
      | ret => cases h; exact ⟨n1, fun μ w a Q hR hE hD hf hQ => LoopWp.round (k1 μ w a _ hR hE hD hf (hQ.then (E2 := E) (D2 := D) (S2 := S) (by simp)))⟩
      | pan v => cases h; exact ⟨n1, fun μ w a Q hR hE hD hf hQ => LoopWp.round (k1 μ w a _ hR hE hD hf (hQ.then (E2 := E) (D2 := D) (S2 := S) (by simp)))⟩

theorem cdi_spec {b : Array Nat} {ls : List (Nat × List (Nat × OpI))} {il : List (Nat × OpI)} {es : List Nat} {i : Nat} {o : OpI} : (cdi b ls il es i o).i = i ∧ (cdi b ls il es i o).o = o ∧ ∀ i' o' l, cdi b ls il es i o = .m i' o' l → ∃ p ∈ ls, p.2 = l := by
  unfold cdi
  split
  · rename_i p hp
    exact ⟨rfl, rfl, fun i' o' l h => by cases h; exact ⟨p, List.mem_of_find?_eq_some hp, rfl⟩⟩
  · split
    · exact ⟨rfl, rfl, fun i' o' l h => by cases h⟩
    · split
      · exact ⟨rfl, rfl, fun i' o' l h => by cases h⟩
      · split <;> exact ⟨rfl, rfl, fun i' o' l h => by cases h⟩
      · exact ⟨rfl, rfl, fun i' o' l h => by cases h⟩
      · exact ⟨rfl, rfl, fun i' o' l h => by cases h⟩

theorem lits_mem {il : List (Nat × OpI)} {p : Nat × List (Nat × OpI)} (h : p ∈ lits il) : ∀ q ∈ p.2, q ∈ il := by
  unfold lits at h
  obtain ⟨z, _, hz⟩ := List.mem_filterMap.1 h
  split at hz
  · split at hz
    · cases hz
    · rename_i ins _ hins
      cases hz
      intro q hq
      simp only at hq
      exact (List.mem_filter.1 hq).1
  · cases hz

theorem zip_range_mem {α : Type} {l : List α} {q : Nat × α} (h : q ∈ (List.range l.length).zip l) : l[q.1]? = some q.2 := by
  obtain ⟨k, hk⟩ := List.getElem?_of_mem h
  rw [List.getElem?_zip_eq_some] at hk
  obtain ⟨h1, h2⟩ := hk
  rw [List.getElem?_range] at h1
  · cases h1; exact h2
  · exact (List.getElem?_eq_some_iff.1 h2).1

theorem cdraw_spec {ops : Array Oper} : cdraw ops (ops.toList.map (cio P G N ops)) = .bad ∨ ∃ its, cdraw ops (ops.toList.map (cio P G N ops)) = .draw its.length its ∧ DrawOk ops its ∧
    (∀ (c : Nat) (d : DI), its[c]? = some d → ∃ o, ops[d.i]? = some o ∧ d.o = cio P G N ops o) ∧
    ∀ (c i : Nat) o l p, its[c]? = some (.m i o l) → p ∈ l → ∃ o', ops[p.1]? = some o' ∧ p.2 = cio P G N ops o' := by
  unfold cdraw
  dsimp only
  rw [CheckFast.beforeF_eq]
  generalize hits : List.filterMap _ _ = its
  split
  · rename_i hok
    have hok := drawOk_spec hok
    have mem : ∀ (c : Nat) (d' : DI), its[c]? = some d' → ∃ ls il0 es i x, (∃ il, ls = lits il ∧ ∀ q ∈ il, (ops.toList.map (cio P G N ops))[q.1]? = some q.2) ∧ (ops.toList.map (cio P G N ops))[i]? = some x ∧ d' = cdi (Region.before ops) ls il0 es i x := by
      intro c d' hc
      have hmem := List.mem_of_getElem? hc
      rw [← hits] at hmem
      obtain ⟨i, _, hi⟩ := List.mem_filterMap.1 hmem
      cases hli : (ops.toList.map (cio P G N ops))[i]? with
      | none => rw [hli] at hi; cases hi
      | some o' =>
        rw [hli] at hi
        simp only [Option.map_some, Option.some.injEq] at hi
        exact ⟨_, _, _, i, o', ⟨_, rfl, fun q hq => zip_range_mem hq⟩, hli, hi.symm⟩
    have src : ∀ (i : Nat) (x : OpI), (ops.toList.map (cio P G N ops))[i]? = some x → ∃ o, ops[i]? = some o ∧ x = cio P G N ops o := by
      intro i x hx
      rw [List.getElem?_map] at hx
      cases hop : ops.toList[i]? with
      | none => rw [hop] at hx; cases hx
      | some o =>
        rw [hop] at hx
        simp only [Option.map_some, Option.some.injEq] at hx
        exact ⟨o, by simpa using hop, hx.symm⟩
    refine .inr ⟨its, ?_, hok, ?_, ?_⟩
    · have hlen := hok.len
      rw [List.length_map, Array.length_toList, hlen]
    · intro c d' hc
      obtain ⟨ls, il0, es, i, x, _, hx, rfl⟩ := mem c d' hc
      obtain ⟨o, h1, h2⟩ := src i x hx
      exact ⟨o, by rw [cdi_spec.1]; exact h1, by rw [cdi_spec.2.1]; exact h2⟩
    · intro c i o l p hc hp
      obtain ⟨ls, il0, es, i', x, ⟨il, rfl, hil⟩, _, he⟩ := mem c _ hc
      obtain ⟨z, hz, rfl⟩ := cdi_spec.2.2 _ _ _ he.symm
      exact src _ _ (hil p (lits_mem hz p hp))
  · exact .inl rfl

theorem code_ok (hm : P.follows .mixedOrders = true) (hkn : Known P kn) (hcall : CallOK P P.globals.size call) (lf : Nat) (c : Code) : KOK P N c (evC kn call lf (ccode P P.globals.size N c)) := by
  have hn : CallN call := fun f args S r S' h => (hcall f args S r S' h).1
  induction c with
  | skip =>
    intro E D S x E' D' S' h
    simp only [ccode] at h
    have h : kSkip E D S = some (x, E', D', S') := h
    cases h
    exact ⟨Nat.le_refl _, fun μ w a Q hR hE hD hf hQ => wp_skip (hQ μ a w .normal hR (Ext.refl _ _ _) hE hD rfl)⟩
  | region id ops draw =>
    intro E D S x E' D' S' h
    cases draw with
    | false =>
      simp only [ccode] at h
      have h : evOps kn call (ops.toList.map (cio P P.globals.size N ops)) E D S = some (x, E', D', S') := h
      refine ⟨n_evOps hn _ h, fun μ w a Q hR hE hD hf hQ => wp_region ?_⟩
      rw [List.range_eq_range']
      have := evOps_sound (Q := Q) hkn hcall ops.toList 0 (by simp) h hR hE hD hf hQ
      simpa using this
    | true =>
      simp only [ccode] at h
      rcases cdraw_spec (P := P) (G := P.globals.size) (N := N) (ops := ops) with hb | ⟨its, hi, hok, hits, hlits⟩
      · rw [hb] at h; cases h
      · rw [hi] at h
        have h : kDraw kn call its.length its E D S = some (x, E', D', S') := h
        unfold kDraw at h
        split at h
        · rename_i d hd
          cases h
          have hle := n_evDraw hn _ hd
          simp only at hle
          exact ⟨Nat.le_trans (Nat.le_add_right _ _) hle, fun μ w a Q hR hE hD hf hQ => draw_sound hm hkn hcall hok hits hlits hR hE hD hd hf hQ⟩
        · cases h
  | seq c1 c2 ih1 ih2 =>
    intro E D S x E' D' S' h
    simp only [ccode] at h
    have h : kSeq (evC kn call lf (ccode P P.globals.size N c1)) (evC kn call lf (ccode P P.globals.size N c2)) E D S = some (x, E', D', S') := h
    unfold kSeq at h
    split at h
    · cases h
    · rename_i x1 E1 D1 S1 h1
      obtain ⟨n1, k1⟩ := ih1 _ _ _ _ _ _ _ h1
      cases x1 with
      | normal =>
        obtain ⟨n2, k2⟩ := ih2 _ _ _ _ _ _ _ h
        refine ⟨Nat.le_trans n1 n2, fun μ w a Q hR hE hD hf hQ => wp_seq (k1 μ w a _ hR hE hD (hf.left n2) ?_)⟩
        intro μ1 a1 w1 e g1 g2 g3 g4 g5
        simp only [XR] at g5
        subst g5
        exact k2 μ1 w1 a1 Q g1 g3 g4 (hf.right g2) (hQ.after g2)
      | exit id => cases h; exact ⟨n1, fun μ w a Q hR hE hD hf hQ => wp_seq (k1 μ w a _ hR hE hD hf (hQ.then (E2 := E) (D2 := D) (S2 := S) (by simp)))⟩
      | ret => cases h; exact ⟨n1, fun μ w a Q hR hE hD hf hQ => wp_seq (k1 μ w a _ hR hE hD hf (hQ.then (E2 := E) (D2 := D) (S2 := S) (by simp)))⟩
      | pan v => cases h; exact ⟨n1, fun μ w a Q hR hE hD hf hQ => wp_seq (k1 μ w a _ hR hE hD hf (hQ.then (E2 := E) (D2 := D) (S2 := S) (by simp)))⟩
  | cond o c1 c2 ih1 ih2 =>
    intro E D S x E' D' S' h
    simp only [ccode] at h
    split at h
    · rename_i o' ho
      have h : kCond o' (evC kn call lf (ccode P P.globals.size N c1)) (evC kn call lf (ccode P P.globals.size N c2)) E D S = some (x, E', D', S') := h
      unfold kCond at h
      split at h
      · rename_i t ht
        cases t with
        | true =>
          obtain ⟨n1, k1⟩ := ih1 _ _ _ _ _ _ _ h
          exact ⟨n1, fun μ w a Q hR hE hD hf hQ => wp_cond_true (cond_sound hE ho ht) (k1 μ w a Q hR hE hD hf hQ)⟩
        | false =>
          obtain ⟨n1, k1⟩ := ih2 _ _ _ _ _ _ _ h
          exact ⟨n1, fun μ w a Q hR hE hD hf hQ => wp_cond_false (cond_sound hE ho ht) (k1 μ w a Q hR hE hD hf hQ)⟩
      · cases h
    · cases h
  | block id c1 ih1 =>
    intro E D S x E' D' S' h
    simp only [ccode] at h
    have h : kBlock id (evC kn call lf (ccode P P.globals.size N c1)) E D S = some (x, E', D', S') := h
    unfold kBlock at h
    split at h
    · cases h
    · rename_i x1 r h1
      obtain ⟨E1, D1, S1⟩ := r
      obtain ⟨n1, k1⟩ := ih1 _ _ _ _ _ _ _ h1
      cases x1 with
      | normal =>
        cases h
        refine ⟨n1, fun μ w a Q hR hE hD hf hQ => wp_block (k1 μ w a _ hR hE hD hf ?_)⟩
        intro μ1 a1 w1 e g1 g2 g3 g4 g5
        simp only [XR] at g5; subst g5
        exact hQ μ1 a1 w1 _ g1 g2 g3 g4 rfl
      | exit j =>
        dsimp only at h
        cases hj : Nat.beq j id with
        | true =>
          rw [hj] at h
          cases h
          have hj' : j = id := Nat.eq_of_beq_eq_true hj
          refine ⟨n1, fun μ w a Q hR hE hD hf hQ => wp_block (k1 μ w a _ hR hE hD hf ?_)⟩
          intro μ1 a1 w1 e g1 g2 g3 g4 g5
          simp only [XR] at g5; subst g5
          simp only [Exit.inBlock, hj', if_true]
          exact hQ μ1 a1 w1 _ g1 g2 g3 g4 rfl
        | false =>
          rw [hj] at h
          cases h
          have hj' : j ≠ id := Nat.ne_of_beq_eq_false hj
          refine ⟨n1, fun μ w a Q hR hE hD hf hQ => wp_block (k1 μ w a _ hR hE hD hf ?_)⟩
          intro μ1 a1 w1 e g1 g2 g3 g4 g5
          simp only [XR] at g5; subst g5
          simp only [Exit.inBlock, hj', if_false]
          exact hQ μ1 a1 w1 _ g1 g2 g3 g4 rfl
      | ret =>
        cases h
        refine ⟨n1, fun μ w a Q hR hE hD hf hQ => wp_block (k1 μ w a _ hR hE hD hf ?_)⟩
        intro μ1 a1 w1 e g1 g2 g3 g4 g5
        simp only [XR] at g5; subst g5
        exact hQ μ1 a1 w1 _ g1 g2 g3 g4 rfl
      | pan v =>
        cases h
        refine ⟨n1, fun μ w a Q hR hE hD hf hQ => wp_block (k1 μ w a _ hR hE hD hf ?_)⟩
        intro μ1 a1 w1 e g1 g2 g3 g4 g5
        have g6 := hQ μ1 a1 w1 _ g1 g2 g3 g4 g5
        simp only [XR] at g5; obtain ⟨t, v', rfl, g5⟩ := g5
        exact g6
  | loop c1 ih1 =>
    intro E D S x E' D' S' h
    simp only [ccode] at h
    have h : kLoop (evC kn call lf (ccode P P.globals.size N c1)) lf E D S = some (x, E', D', S') := h
    obtain ⟨n1, k1⟩ := loop_ok ih1 lf _ _ _ _ _ _ _ h
    exact ⟨n1, fun μ w a Q hR hE hD hf hQ => (k1 μ w a Q hR hE hD hf hQ).wp⟩
  | exit id =>
    intro E D S x E' D' S' h
    simp only [ccode] at h
    have h : kExit id E D S = some (x, E', D', S') := h
    cases h
    exact ⟨Nat.le_refl _, fun μ w a Q hR hE hD hf hQ => wp_exit (hQ μ a w _ hR (Ext.refl _ _ _) hE hD rfl)⟩
  | ret =>
    intro E D S x E' D' S' h
    simp only [ccode] at h
    have h : kRet E D S = some (x, E', D', S') := h
    cases h
    exact ⟨Nat.le_refl _, fun μ w a Q hR hE hD hf hQ => wp_ret (hQ μ a w _ hR (Ext.refl _ _ _) hE hD rfl)⟩
  | _ => intro E D S x E' D' S' h; simp only [ccode] at h; cases h

end Go.Eng

/- The evaluator's code does what the model's does: functions, deferred calls. -/
set_option linter.unusedSimpArgs false
set_option linter.unusedVariables false
namespace Go.Eng
variable {P : Program} {G N : Nat} {μ : Mp} {S S' : AH} {w : World}
variable {kn : Nat → Bool} {call : Nat → List AV → AH → Option (CR × AH)}

/-! results -/

theorem evRes_nil (E : Env) (S : AH) : evRes [] E S = some [] := rfl
theorem evRes_cons (r : RV) (l : List RV) (E : Env) (S : AH) : evRes (r :: l) E S = (match r with
    | .t i => match E.get i, evRes l E S with
      | some v, some l => some (v :: l)
      | _, _ => none
    | .cell i sh => match E.get i with
      | some p => match eload sh p S, evRes l E S with
        | some (v, _), some l => some (v :: l)
        | _, _ => none
      | none => none) := rfl

def resVal (P : Program) (tmps : Array Value) (r : ResultVar) : Sem Value :=
  match r with
  | .tmp t => Pure.pure (tmps.getD t undef)
  | .cell a t => do loadVar t (← asAddr (tmps.getD a undef))

theorem loadAt_some {t : TypeId} {A : Addr} {y : Value} (h : (Instr.loadAt t (.pointer (some A))).run P w = .ok y w) : (loadVar t A).run P w = .ok y w := by
  simpa only [Instr.loadAt, Instr.sureAddr, Sem.run_bind, Sem.run_pure, Result.andThen_ok] using h

theorem resList_sound {E : Env} {a : Act} (hR : Rel G μ S w) (hE : EnvR N μ E a) : ∀ (rs : List ResultVar) (rv : List RV) (l : List AV), cres P rs = some rv → evRes rv E S = some l →
    ∃ vs : List Value, (rs.mapM (resVal P a.tmps)).run P w = .ok vs w ∧ VRL μ l vs
  | [], rv, l, hc, h => by
    simp only [cres, Option.some.injEq] at hc
    subst hc
    rw [evRes_nil] at h; cases h
    exact ⟨[], by simp, by simp [VRL]⟩
  | r :: rs, rv, l, hc, h => by
    cases r with
    | tmp t =>
      simp only [cres] at hc
      cases hcr : cres P rs with
      | none => rw [hcr] at hc; cases hc
      | some rv' =>
        rw [hcr] at hc
        simp only [Option.map_some, Option.some.injEq] at hc
        subst hc
        rw [evRes_cons] at h
        dsimp only at h
        split at h
        · rename_i v l' h1 h2
          cases h
          obtain ⟨vs, g1, g2⟩ := resList_sound hR hE rs rv' l' hcr h2
          refine ⟨a.tmps.getD t undef :: vs, ?_, ?_⟩
          · simp only [List.mapM_cons, resVal, Sem.run_bind, Sem.run_pure, Result.andThen_ok, g1]
          · simp only [VRL]; exact ⟨hE.get t v h1, g2⟩
        · cases h
    | cell t ty =>
      simp only [cres] at hc
      split at hc
      · rename_i sh rv' hsh hcr
        simp only [Option.some.injEq] at hc
        subst hc
        rw [evRes_cons] at h
        dsimp only at h
        split at h
        · rename_i p hp
          split at h
          · rename_i v S1 l' h1 h2
            cases h
            obtain ⟨vs, g1, g2⟩ := resList_sound hR hE rs rv' l' hcr h2
            have hpv := hE.get t p hp
            obtain ⟨_, y, hy, hyr⟩ := eload_sound hsh hR hpv h1
            have hptr : ∃ A, a.tmps.getD t undef = .pointer (some A) := by
              cases p <;> simp only [eload] at h1 <;> first | (cases h1; done) | skip
              simp only [VR] at hpv
              obtain ⟨L, _, e⟩ := hpv
              exact ⟨_, e⟩
            obtain ⟨A, hA⟩ := hptr
            rw [hA] at hy
            refine ⟨y :: vs, ?_, ?_⟩
            · simp only [List.mapM_cons, resVal, hA, asAddr, Sem.run_bind, Sem.run_pure, Result.andThen_ok, loadAt_some hy, g1]
            · simp only [VRL]; exact ⟨hyr, g2⟩
          · cases h
        · cases h
      · cases hc

theorem results_sound {fn : Func} {rv : List RV} {l : List AV} {E : Env} {a : Act} (hc : cres P fn.results.toList = some rv) (hR : Rel G μ S w) (hE : EnvR N μ E a) (h : evRes rv E S = some l) :
    ∃ v, (results fn a.tmps).run P w = .ok v w ∧ VR μ (Go.Eng.one l) v := by
  obtain ⟨vs, h1, h2⟩ := resList_sound hR hE _ _ _ hc h
  have e0 : results fn a.tmps = (do
      let vs ← fn.results.mapM (resVal P a.tmps)
      Pure.pure (if h : vs.size = 1 then vs[0] else .tuple vs)) := by
    unfold results
    congr 1
  rw [e0, Array.mapM_eq_mapM_toList]
  simp only [Sem.run_bind, Sem.run_map, h1, Result.andThen_ok, Sem.run_pure]
  refine ⟨_, rfl, ?_⟩
  cases l with
  | nil =>
    cases vs with
    | nil => simp only [one, VR]; exact ⟨#[], rfl, by simp [VRL]⟩
    | cons v vs => simp [VRL] at h2
  | cons x l =>
    cases l with
    | nil =>
      cases vs with
      | nil => simp [VRL] at h2
      | cons v vs =>
        cases vs with
        | nil => simp only [VRL] at h2; simpa [one] using h2.1
        | cons v' vs => simp [VRL] at h2
    | cons y l =>
      cases vs with
      | nil => simp [VRL] at h2
      | cons v vs =>
        cases vs with
        | nil => simp [VRL] at h2
        | cons v' vs =>
          have : ¬ (v :: v' :: vs).toArray.size = 1 := by simp
          simp only [this, dif_neg, not_false_eq_true, one, VR]
          exact ⟨_, rfl, by simpa using h2⟩

end Go.Eng

/- The evaluator's code does what the model's does: deferred calls, and calls. -/
set_option linter.unusedSimpArgs false
set_option linter.unusedVariables false
namespace Go.Eng
variable {P : Program} {G N : Nat} {μ : Mp} {S S' : AH} {w : World}
variable {kn : Nat → Bool} {call : Nat → List AV → AH → Option (CR × AH)}

def MR (μ : Mp) (m : DM) (u : FrameMode) : Prop :=
  match m with
  | .ret => u = .returning
  | .pan v r => ∃ t v', u = .panicking [{ v := .iface t v', recovered := r }] ∧ VR μ v (.iface t v')

theorem MR.mono {μ μ' : Mp} (h : μ.le μ') {m : DM} {u : FrameMode} (hm : MR μ m u) : MR μ' m u := by
  cases m with
  | ret => exact hm
  | pan v r => obtain ⟨t, v', h1, h2⟩ := hm; exact ⟨t, v', h1, h2.mono h⟩

def PostS (P : Program) (G N : Nat) (μ : Mp) (S : AH) (w : World) (e : Exit) (E' : Env) (m' : DM) (S' : AH) (c₀ : Frame) (cs : List Frame) (Q : Exit → Act → List Frame → World → Prop) : Prop :=
  ∀ μ' a' w' u', Rel G μ' S' w' → Ext μ S w μ' S' w' → EnvR N μ' E' a' → a'.defers = [] → MR μ' m' u' → Q e a' ({ c₀ with mode := u' } :: cs) w'

theorem PostS.after {c₀ : Frame} {cs : List Frame} {Q : Exit → Act → List Frame → World → Prop} {μ1 : Mp} {S1 : AH} {w1 : World} {e : Exit} {E' : Env} {m' : DM} (h : PostS P G N μ S w e E' m' S' c₀ cs Q) (he : Ext μ S w μ1 S1 w1) : PostS P G N μ1 S1 w1 e E' m' S' c₀ cs Q :=
  fun μ' a' w' u' h1 h2 h3 h4 h5 => h μ' a' w' u' h1 (he.trans h2) h3 h4 h5

theorem evS_nil (E : Env) (m : DM) (S : AH) : evS kn call [] E m S = some (E, m, S) := rfl
theorem evS_cons (o : OpI) (l : List OpI) (E : Env) (m : DM) (S : AH) : evS kn call (o :: l) E m S = (match o.op with
      | .recov => match want o.guard E with
        | some true => match m with
          | .ret => evS kn call l (putO E o.dst .nili) m S
          | .pan v r => match r with
            | true => evS kn call l (putO E o.dst .nili) m S
            | false => evS kn call l (putO E o.dst v) (.pan v true) S
        | _ => none
      | _ => match evOp kn call o E [] S with
        | some (none, E1, D1, S1) => match D1 with
          | [] => evS kn call l E1 m S1
          | _ => none
        | _ => none) := by
  rfl

theorem n_evS (hn : CallN call) : ∀ (l : List OpI) {E E' : Env} {m m' : DM} {S S' : AH}, evS kn call l E m S = some (E', m', S') → S.n ≤ S'.n
  | [], E, E', m, m', S, S', h => by rw [evS_nil] at h; cases h; exact Nat.le_refl _
  | o :: l, E, E', m, m', S, S', h => by
    rw [evS_cons] at h
    split at h
    · split at h
      · split at h
        · exact n_evS hn l h
        · split at h <;> exact n_evS hn l h
      · cases h
    · split at h
      · rename_i E1 D1 S1 ho
        have := n_evOp hn ho
        split at h
        · exact Nat.le_trans this (n_evS hn l h)
        · cases h
      · cases h

theorem vr_nili (μ : Mp) : VR μ .nili .nilIface := by simp only [VR]

theorem evS_sound (hkn : Known P kn) (hcall : CallOK P G call) {ops : Array Oper} {c₀ : Frame} {cs : List Frame} {Q : Exit → Act → List Frame → World → Prop} : ∀ (l : List Oper) (k : Nat), (∀ j, l[j]? = ops[k + j]?) →
    ∀ {E E' : Env} {m m' : DM} {S S' : AH} {μ : Mp} {a : Act} {w : World} {u : FrameMode}, evS kn call (l.map (cio P G N ops)) E m S = some (E', m', S') →
      Rel G μ S w → EnvR N μ E a → a.defers = [] → MR μ m u → Fresh μ S S' → PostS P G N μ S w .normal E' m' S' c₀ cs Q → wpOpsS P ops Q (List.range' k l.length) a ({ c₀ with mode := u } :: cs) w
  | [], k, _, E, E', m, m', S, S', μ, a, w, u, h, hR, hE, hD, hM, hf, hQ => by
    simp only [List.map_nil] at h
    rw [evS_nil] at h
    cases h
    exact hQ μ a w u hR (Ext.refl _ _ _) hE hD hM
  | o :: l, k, hl, E, E', m, m', S, S', μ, a, w, u, h, hR, hE, hD, hM, hf, hQ => by
    have hn : CallN call := fun f args S r S' h => (hcall f args S r S' h).1
    have ho : ops[k]? = some o := by simpa using (hl 0).symm
    simp only [List.map_cons] at h
    rw [evS_cons] at h
    have hnext : ∀ {μ1 : Mp} {a1 : Act} {w1 : World} {E1 : Env} {m1 : DM} {S1 : AH} {u1 : FrameMode}, evS kn call (l.map (cio P G N ops)) E1 m1 S1 = some (E', m', S') → Rel G μ1 S1 w1 → Ext μ S w μ1 S1 w1 → EnvR N μ1 E1 a1 → a1.defers = [] → MR μ1 m1 u1 →
        wpOpsS P ops Q (List.range' (k + 1) l.length) a1 ({ c₀ with mode := u1 } :: cs) w1 := by
      intro μ1 a1 w1 E1 m1 S1 u1 g0 g1 g2 g3 g4 g5
      exact evS_sound hkn hcall l (k + 1) (fun j => by have := hl (j + 1); simpa [Nat.add_assoc, Nat.add_comm 1 j] using this) g0 g1 g3 g4 g5 (hf.right g2) (hQ.after g2)
    simp only [List.length_cons, List.range'_succ]
    unfold wpOpsS
    simp only [ho]
    rcases cio_spec (x := cio P G N ops o) rfl with ⟨hbad, hg0⟩ | ⟨io, g, hcop, hg, hgl, hdst, hgN, hdo⟩
    · exfalso
      rw [hbad] at h
      simp only at h
      unfold evOp at h
      rw [hg0, hbad] at h
      cases h
    · rw [hdo] at h
      dsimp only at h
      split at h
      · -- recover
        split at h
        · rename_i hw
          rw [if_pos (want_sound hg hE hgN hw)]
          have hrun : ∃ μ' w', Rel G μ' S w' ∧ Ext μ S w μ' S w' ∧ (execOp a.eval o).run P w = .ok .recover w' :=
            cop_sound ⟨hkn, hgl, hR, hE, fun b h1 h2 => by omega⟩ (S' := S) hcop (x := .recov) rfl
          obtain ⟨μ1, w1, g1, g2, g3⟩ := hrun
          rw [g3]
          have hE1 := hE.mono g2.mono
          cases m with
          | ret =>
            simp only [MR] at hM
            subst hM
            have : recoverD ({ c₀ with mode := .returning } :: cs) = none := rfl
            rw [this]
            exact hnext h g1 g2 (hE1.put hdst (vr_nili _)) (by rw [put_defers]; exact hD) rfl
          | pan v r =>
            simp only [MR] at hM
            obtain ⟨t, v', rfl, hv⟩ := hM
            cases r with
            | true =>
              have : recoverD ({ c₀ with mode := .panicking [{ v := .iface t v', recovered := true }] } :: cs) = none := rfl
              rw [this]
              exact hnext h g1 g2 (hE1.put hdst (vr_nili _)) (by rw [put_defers]; exact hD) ⟨t, v', rfl, hv.mono g2.mono⟩
            | false =>
              have : recoverD ({ c₀ with mode := .panicking [{ v := .iface t v', recovered := false }] } :: cs) = some (.iface t v', { c₀ with mode := .panicking [{ v := .iface t v', recovered := true }] } :: cs) := rfl
              rw [this]
              exact hnext h g1 g2 (hE1.put hdst (hv.mono g2.mono)) (by rw [put_defers]; exact hD) ⟨t, v', rfl, hv.mono g2.mono⟩
        · cases h
      · split at h
        · rename_i E1 D1 S1 he
          split at h
          · cases hw : want g E with
            | none => unfold evOp at he; rw [hw] at he; cases he
            | some r =>
              cases r with
              | false =>
                rw [if_neg (by rw [want_sound hg hE hgN hw]; simp)]
                unfold evOp at he
                rw [hw] at he
                cases he
                exact hnext h hR (Ext.refl _ _ _) (hE.put hdst (by simp only [VR]; exact ⟨#[], rfl, by simp [VRL]⟩)) (by rw [put_defers]; exact hD) hM
              | true =>
                rw [if_pos (want_sound hg hE hgN hw)]
                have hf1 : Fresh μ S S1 := hf.left (n_evS hn _ h)
                have := evOp_upon (K := fun a' w' => wpOpsS P ops Q (List.range' (k + 1) l.length) a' ({ c₀ with mode := u } :: cs) w') (Q := fun e a' w' => Q e a' ({ c₀ with mode := u } :: cs) w')
                  hkn hcall hcop hgl hdst hR hE (by rw [hD]; trivial) hw he hf1
                  (fun _ μ1 a1 w1 g1 g2 g3 g4 _ => hnext h g1 g2 g3 (by
                    generalize a1.defers = ds at g4
                    cases ds with
                    | nil => rfl
                    | cons d ds => exact g4.elim) (hM.mono g2.mono))
                  (fun v hv => by cases hv)
                obtain ⟨h1, h2⟩ := this
                split
                · rename_i w' hrec
                  exact absurd hrec (h2 w')
                · exact h1
          · cases h
        · cases h

theorem evD_zero (c : IC) (E : Env) (m : DM) (S : AH) : evD kn call 0 c E m S = none := rfl
theorem evD_succ (n : Nat) (c : IC) (E : Env) (m : DM) (S : AH) : evD kn call (n + 1) c E m S = (match c with
      | .skip => some (false, E, m, S)
      | .ret => some (true, E, m, S)
      | .ops l => match evS kn call l E m S with
        | some (E1, m1, S1) => some (false, E1, m1, S1)
        | none => none
      | .seq a b => match evD kn call n a E m S with
        | some (false, E1, m1, S1) => evD kn call n b E1 m1 S1
        | r => r
      | .cond x a b => match opd E x with
        | .bool true => evD kn call n a E m S
        | .bool false => evD kn call n b E m S
        | _ => none
      | _ => none) := rfl

def exitOf (b : Bool) : Exit := if b then .ret else .normal

theorem evD_sound (hkn : Known P kn) (hcall : CallOK P G call) : ∀ (n : Nat) (c : Code) {E E' : Env} {m m' : DM} {S S' : AH} {b : Bool}, evD kn call n (ccode P G N c) E m S = some (b, E', m', S') → S.n ≤ S'.n ∧
    ∀ {μ : Mp} {a : Act} {w : World} {u : FrameMode} {c₀ : Frame} {cs : List Frame} {Q : Exit → Act → List Frame → World → Prop}, Rel G μ S w → EnvR N μ E a → a.defers = [] → MR μ m u → Fresh μ S S' →
      PostS P G N μ S w (exitOf b) E' m' S' c₀ cs Q → c.wpS P Q a ({ c₀ with mode := u } :: cs) w
  | 0, c, E, E', m, m', S, S', b, h => by rw [evD_zero] at h; cases h
  | n + 1, c, E, E', m, m', S, S', b, h => by
    have hn : CallN call := fun f args S r S' h => (hcall f args S r S' h).1
    rw [evD_succ] at h
    cases c with
    | skip =>
      simp only [ccode] at h
      cases h
      exact ⟨Nat.le_refl _, fun hR hE hD hM hf hQ => wpS_of_wp (wp_skip (hQ _ _ _ _ hR (Ext.refl _ _ _) hE hD hM))⟩
    | ret =>
      simp only [ccode] at h
      cases h
      exact ⟨Nat.le_refl _, fun hR hE hD hM hf hQ => wpS_of_wp (wp_ret (hQ _ _ _ _ hR (Ext.refl _ _ _) hE hD hM))⟩
    | region id ops draw =>
      cases draw with
      | false =>
        simp only [ccode] at h
        split at h
        · rename_i E1 m1 S1 he
          cases h
          refine ⟨n_evS hn _ he, fun {μ a w u c₀ cs Q} hR hE hD hM hf hQ => wpS_region ?_⟩
          rw [List.range_eq_range']
          have := evS_sound (Q := Q) (c₀ := c₀) (cs := cs) hkn hcall ops.toList 0 (by simp) he hR hE hD hM hf hQ
          simpa using this
        · cases h
      | true =>
        simp only [ccode] at h
        rcases cdraw_spec (P := P) (G := G) (N := N) (ops := ops) with hb | ⟨its, hi, _, _⟩
        · rw [hb] at h; cases h
        · rw [hi] at h; cases h
    | seq c1 c2 =>
      simp only [ccode] at h
      split at h
      · rename_i E1 m1 S1 h1
        obtain ⟨n1, k1⟩ := evD_sound hkn hcall n c1 h1
        obtain ⟨n2, k2⟩ := evD_sound hkn hcall n c2 h
        refine ⟨Nat.le_trans n1 n2, fun hR hE hD hM hf hQ => wpS_seq (k1 hR hE hD hM (hf.left n2) ?_)⟩
        intro μ1 a1 w1 u1 g1 g2 g3 g4 g5
        exact k2 g1 g3 g4 g5 (hf.right g2) (hQ.after g2)
      · rename_i hr
        obtain ⟨n1, k1⟩ := evD_sound hkn hcall n c1 h
        refine ⟨n1, fun hR hE hD hM hf hQ => wpS_seq (k1 hR hE hD hM hf ?_)⟩
        intro μ1 a1 w1 u1 g1 g2 g3 g4 g5
        cases b with
        | false => exact absurd h (hr _ _ _)
        | true => exact hQ μ1 a1 w1 u1 g1 g2 g3 g4 g5
    | cond o c1 c2 =>
      simp only [ccode] at h
      split at h
      all_goals rename_i heq
      all_goals split at heq
      all_goals first | (cases heq; done) | skip
      all_goals
        rename_i o' ho
      all_goals first | (cases heq) | skip
      all_goals first | (cases h; done) | skip
      split at h
      · rename_i ht
        obtain ⟨n1, k1⟩ := evD_sound hkn hcall n c1 h
        exact ⟨n1, fun hR hE hD hM hf hQ => wpS_cond (t := true) (cond_sound hE ho ht) (k1 hR hE hD hM hf hQ)⟩
      · rename_i ht
        obtain ⟨n1, k1⟩ := evD_sound hkn hcall n c2 h
        exact ⟨n1, fun hR hE hD hM hf hQ => wpS_cond (t := false) (cond_sound hE ho ht) (k1 hR hE hD hM hf hQ)⟩
      · cases h
    | _ => simp only [ccode] at h; cases h

end Go.Eng

/- The evaluator does what the model does. -/
set_option linter.unusedSimpArgs false
set_option linter.unusedVariables false
namespace Go.Eng
variable {P : Program} {μ : Mp} {S S' : AH} {w : World}
variable {kn : Nat → Bool} {call : Nat → List AV → AH → Option (CR × AH)} {fns : Nat → Option FnIR} {sfns : Nat → Option SFn} {ovr : Nat → List AV → AH → Option (CR × AH)}

/-- the evaluator's table of functions is made of the program's -/
def TableOK (P : Program) (fns : Nat → Option FnIR) : Prop := ∀ f ir, fns f = some ir → ∃ fn, P.funcs[f]? = some fn ∧ cfn P fn = some ir

theorem cfn_spec {fn : Func} {ir : FnIR} (h : cfn P fn = some ir) : ∃ c, fn.body = some c ∧ ir.body = ccode P P.globals.size fn.ntmps c ∧ cres P fn.results.toList = some ir.res := by
  unfold cfn at h
  split at h
  · cases h
  · rename_i c hc
    split at h
    · rename_i r hr
      cases h
      exact ⟨c, hc, rfl, hr⟩
    · cases h

theorem enter_env {N : Nat} {args : List AV} {vs : Array Value} (h : VRL μ args vs.toList) : EnvR N μ (Tr.putL args 0 .e) { tmps := vs ++ Array.replicate (N - vs.size) undef, defers := [] } := by
  refine ⟨by simp; omega, ?_⟩
  intro i x hx
  rw [Tr.get_putL] at hx
  split at hx
  · rename_i hi
    simp only [Nat.sub_zero] at hx
    obtain ⟨v, hv, hr⟩ := h.get i x hx
    have hlen := h.length
    have hlt : i < vs.size := by simp at hlen; omega
    simp only [Array.getD_eq_getD_getElem?]
    rw [Array.getElem?_append_left hlt]
    rw [Array.getElem?_toList] at hv
    rw [hv]; exact hr
  · rw [Tr.get_e] at hx; cases hx

theorem evDefers_nil (n : Nat) (m : DM) (S : AH) : evDefers kn fns call n [] m S = some (m, S) := rfl
theorem evDefers_cons (n : Nat) (d : AD) (D : List AD) (m : DM) (S : AH) : evDefers kn fns call n (d :: D) m S = (match fns d.f with
      | none => none
      | some fn => match evD kn call n fn.body (Tr.putL d.args 0 .e) m S with
        | none => none
        | some (_, E1, m1, S1) => match evRes fn.res E1 S1 with
          | none => none
          | some _ => match m1 with
            | .ret => evDefers kn fns call n D .ret S1
            | .pan v r => match r with
              | true => evDefers kn fns call n D .ret S1
              | false => evDefers kn fns call n D (.pan v false) S1) := rfl

theorem settle_ret : settle .returning = .returning := rfl
theorem settle_rec (v : Value) : settle (.panicking [{ v := v, recovered := true }]) = .returning := rfl
theorem settle_pan (v : Value) : settle (.panicking [{ v := v, recovered := false }]) = .panicking [{ v := v, recovered := false }] := rfl

/-- is this a state in which a deferred call may begin? -/
def DM.open : DM → Prop
  | .pan _ true => False
  | _ => True

theorem evDefers_sound (hkn : Known P kn) (ht : TableOK P fns) (hcall : CallOK P P.globals.size call) (n : Nat) {fn : Func} {tmps : Array Value} {R : Ending → World → Prop} : ∀ (D : List AD) {m m' : DM} {S S' : AH}, m.open → evDefers kn fns call n D m S = some (m', S') → m'.open ∧ S.n ≤ S'.n ∧
    ∀ {μ : Mp} {w : World} {u : FrameMode} {ds : List Deferred}, Rel P.globals.size μ S w → DRL P μ D ds → MR μ m u → Fresh μ S S' →
      (∀ μ' w' u', Rel P.globals.size μ' S' w' → Ext μ S w μ' S' w' → MR μ' m' u' → Leaves P fn tmps R [] u' w') → Leaves P fn tmps R ds u w
  | [], m, m', S, S', hop, h => by
    rw [evDefers_nil] at h; cases h
    refine ⟨hop, Nat.le_refl _, fun {μ w u ds} hR hD hM hf hQ => ?_⟩
    cases ds with
    | nil => exact hQ μ w u hR (Ext.refl _ _ _) hM
    | cons d ds => exact hD.elim
  | d :: D, m, m', S, S', hop, h => by
    rw [evDefers_cons] at h
    split at h
    · cases h
    · rename_i ir hir
      obtain ⟨fn', hfn, hc⟩ := ht _ _ hir
      obtain ⟨c, hb, hbody, hres⟩ := cfn_spec hc
      split at h
      · cases h
      · rename_i b E1 m1 S1 he
        rw [hbody] at he
        obtain ⟨n1, k1⟩ := evD_sound hkn hcall n c he
        split at h
        · cases h
        · rename_i l hl
          -- what the rest does
          have hgo : ∃ m2, DM.open m2 ∧ evDefers kn fns call n D m2 S1 = some (m', S') ∧ ∀ μ u', MR μ m1 u' → MR μ m2 (settle u') := by
            cases m1 with
            | ret => exact ⟨.ret, trivial, h, fun μ u' hM => by simp only [MR] at hM ⊢; subst hM; rfl⟩
            | pan v r =>
              cases r with
              | true => exact ⟨.ret, trivial, h, fun μ u' hM => by obtain ⟨t, v', rfl, _⟩ := hM; rfl⟩
              | false => exact ⟨.pan v false, trivial, h, fun μ u' hM => by obtain ⟨t, v', rfl, h3⟩ := hM; exact ⟨t, v', rfl, h3⟩⟩
          obtain ⟨m2, hop2, hd, hset⟩ := hgo
          obtain ⟨ho', n2, k2⟩ := evDefers_sound hkn ht hcall n (fn := fn) (tmps := tmps) (R := R) D hop2 hd
          refine ⟨ho', Nat.le_trans n1 n2, fun {μ w u ds} hR hD hM hf hQ => ?_⟩
          cases ds with
          | nil => exact hD.elim
          | cons e ds =>
            obtain ⟨⟨fv, cap, htar, hinv⟩, hD'⟩ := hD
            obtain ⟨vs, hi, hvs⟩ := hinv w
            refine ⟨?_, fv, cap, d.f, vs, htar, hi, ?_⟩
            · cases m with
              | ret => simp only [MR] at hM; subst hM; simp
              | pan v r => obtain ⟨t, v', rfl, _⟩ := hM; simp
            · refine callsD_of_wpS hfn hb fun c₀ cs hu => ?_
              have hc0 : ({ c₀ with mode := u } : Frame) = c₀ := by subst hu; rfl
              rw [← hc0]
              refine k1 (c₀ := c₀) (cs := cs) hR (enter_env hvs) rfl hM (hf.left n2) ?_
              intro μ1 a1 w1 u1 g1 g2 g3 g4 g5
              obtain ⟨v, hv, _⟩ := results_sound hres g1 g3 hl
              have hrest : Leaves P fn tmps R ds (settle u1) w1 := k2 g1 (hD'.mono g2.mono) (hset _ _ g5) (hf.right g2) (fun μ' w' u' q1 q2 q3 => hQ μ' w' u' q1 (g2.trans q2) q3)
              cases b with
              | false => exact ⟨g4, u1, by subst hu; rfl, v, hv, hrest⟩
              | true => exact ⟨g4, u1, by subst hu; rfl, v, hv, hrest⟩

/-- the table of functions that are ready to run -/
def STableOK (P : Program) (kn : Nat → Bool) (sfns : Nat → Option SFn) : Prop :=
  ∀ f sf, sfns f = some sf → ∃ fn ir, P.funcs[f]? = some fn ∧ cfn P fn = some ir ∧ (∀ call lf, sf.body call lf = evC kn call lf ir.body) ∧ sf.res = ir.res

theorem evF_succ {n : Nat} {f : Nat} {args : List AV} {S : AH} : evF kn sfns fns ovr (n + 1) f args S = (match sfns f with
      | none => ovr f args S
      | some fn => match fn.body (evF kn sfns fns ovr n) n (Tr.putL args 0 .e) [] S with
        | none => none
        | some (x, E1, D1, S1) => finishFn kn fns (evF kn sfns fns ovr n) n fn.res x E1 D1 S1) := rfl

theorem finish_sound (hkn : Known P kn) (ht : TableOK P fns) (hcall : CallOK P P.globals.size call) {n : Nat} {fn : Func} {ir : FnIR} (hres : cres P fn.results.toList = some ir.res) {x : AX} {E : Env} {D : List AD} {r : CR}
    (h : finishFn kn fns call n ir.res x E D S = some (r, S')) : S.n ≤ S'.n ∧ ∀ {μ0 μ : Mp} {S0 : AH} {w0 w : World} {a : Act} {e : Exit}, Rel P.globals.size μ S w → Ext μ0 S0 w0 μ S w → EnvR fn.ntmps μ E a → DRL P μ D a.defers → XR μ x e → Fresh μ S S' →
      bodyPostD P fn (CallPost P.globals.size μ0 S0 w0 r S') e a w := by
  -- the mode in which it leaves
  have key : ∀ {m : DM}, m.open → (match evDefers kn fns call n D m S with
    | none => none
    | some (m1, S1) => match m1 with
      | .ret => match evRes ir.res E S1 with
        | some l => some (.ret (one l), S1)
        | none => none
      | .pan v _ => some (.pan v, S1)) = some (r, S') → S.n ≤ S'.n ∧ ∀ {μ0 μ : Mp} {S0 : AH} {w0 w : World} {a : Act} {u : FrameMode}, Rel P.globals.size μ S w → Ext μ0 S0 w0 μ S w → EnvR fn.ntmps μ E a → DRL P μ D a.defers → MR μ m u → Fresh μ S S' →
        Leaves P fn a.tmps (CallPost P.globals.size μ0 S0 w0 r S') a.defers u w := by
    intro m hop h
    split at h
    · cases h
    · rename_i m1 S1 hd
      have hS : S' = S1 := by
        cases m1 with
        | ret => dsimp only at h; split at h <;> cases h; rfl
        | pan v rr => cases h; rfl
      subst hS
      refine ⟨(evDefers_sound (fn := fn) (tmps := #[]) (R := fun _ _ => True) hkn ht hcall n D hop hd).2.1, ?_⟩
      intro μ0 μ S0 w0 w a u hR hx hE hD hM hf
      obtain ⟨ho', _, k⟩ := evDefers_sound (fn := fn) (tmps := a.tmps) (R := CallPost P.globals.size μ0 S0 w0 r S') hkn ht hcall n D hop hd
      refine k hR hD hM hf ?_
      intro μ1 w1 u1 g1 g2 g3
      cases m1 with
      | ret =>
        simp only [MR] at g3
        subst g3
        dsimp only at h
        split at h
        · rename_i l hl
          cases h
          obtain ⟨v, hv, hvr⟩ := results_sound hres g1 (hE.mono g2.mono) hl
          exact ⟨v, hv, μ1, g1, hx.trans g2, v, rfl, hvr⟩
        · cases h
      | pan v rr =>
        cases h
        obtain ⟨t, v', rfl, g4⟩ := g3
        cases rr with
        | true => exact ho'.elim
        | false => exact ⟨μ1, g1, hx.trans g2, t, v', rfl, g4⟩
  unfold finishFn at h
  cases x with
  | normal =>
    obtain ⟨n1, k1⟩ := key (m := .ret) trivial h
    refine ⟨n1, fun hR hx hE hD hX hf => ?_⟩
    simp only [XR] at hX; subst hX
    exact k1 hR hx hE hD rfl hf
  | ret =>
    obtain ⟨n1, k1⟩ := key (m := .ret) trivial h
    refine ⟨n1, fun hR hx hE hD hX hf => ?_⟩
    simp only [XR] at hX; subst hX
    exact k1 hR hx hE hD rfl hf
  | pan v =>
    obtain ⟨n1, k1⟩ := key (m := .pan v false) trivial h
    refine ⟨n1, fun hR hx hE hD hX hf => ?_⟩
    obtain ⟨t, v', rfl, h3⟩ := hX
    exact k1 hR hx hE hD ⟨t, v', rfl, h3⟩ hf
  | exit id => cases h

theorem ev_ok (hm : P.follows .mixedOrders = true) (hkn : Known P kn) (hs : STableOK P kn sfns) (ht : TableOK P fns) (ho : CallOK P P.globals.size ovr) : ∀ n, CallOK P P.globals.size (evF kn sfns fns ovr n)
  | 0 => by
    intro f args S r S' h; cases h
  | n + 1 => by
    have hcall := ev_ok hm hkn hs ht ho n
    intro f args S r S' h
    rw [evF_succ] at h
    split at h
    · exact ho f args S r S' h
    · rename_i sf hsf
      obtain ⟨fn, ir, hfn, hc, hb', hr'⟩ := hs _ _ hsf
      obtain ⟨c, hb, hbody, hres⟩ := cfn_spec hc
      rw [hb'] at h
      split at h
      · cases h
      · rename_i x E1 D1 S1 he
        rw [hbody] at he
        rw [hr'] at h
        obtain ⟨n1, k1⟩ := code_ok hm hkn hcall n c _ _ _ _ _ _ _ he
        obtain ⟨n2, k2⟩ := finish_sound hkn ht hcall hres h
        refine ⟨Nat.le_trans n1 n2, fun μ w vs hR hv hf => calls_of_wp_defers hfn hb (k1 μ w _ _ hR (enter_env hv) trivial (hf.left n2) ?_)⟩
        intro μ1 a1 w1 e g1 g2 g3 g4 g5
        exact k2 g1 g2 g3 g4 g5 (hf.right g2)

/-- a call of a function, as the evaluator tells it -/
theorem ev_calls (hm : P.follows .mixedOrders = true) (hkn : Known P kn) (hs : STableOK P kn sfns) (ht : TableOK P fns) (ho : CallOK P P.globals.size ovr) {n f : Nat} {args : List AV} {r : CR} (h : evF kn sfns fns ovr n f args S = some (r, S'))
    {vs : Array Value} (hR : Rel P.globals.size μ S w) (hv : VRL μ args vs.toList) (hf : Fresh μ S S') : Calls P f vs w (CallPost P.globals.size μ S w r S') :=
  (ev_ok hm hkn hs ht ho n f args S r S' h).2 μ w vs hR hv hf

end Go.Eng

/- The evaluator's code with the choice of what each operation is made beforehand. -/
set_option linter.unusedSimpArgs false
set_option linter.unusedVariables false
namespace Go.Eng

noncomputable def tt (i : Nat) : Env → AV := fun E => match E.get i with
  | some v => v
  | none => .u
noncomputable def cc (v : AV) : Env → AV := fun _ => v
noncomputable def cO (x : Opd) : Env → AV := match x with
  | .t i => tt i
  | .c v => cc v
theorem cO_eq (x : Opd) (E : Env) : cO x E = opd E x := by cases x <;> rfl

noncomputable def oV (d : Option Nat) (f : Env → AV) (k : K) : K := fun E D S => k (putO E d (f E)) D S
noncomputable def oS (d : Option Nat) (f : Env → AH → Option AV) (k : K) : K := fun E D S => match f E S with
  | none => none
  | some v => k (putO E d v) D S
noncomputable def oR (d : Option Nat) (f : Env → AH → Option (AV × AH)) (k : K) : K := fun E D S => match f E S with
  | none => none
  | some (v, S1) => k (putO E d v) D S1
noncomputable def gRes (k : K) (r : Option (Option AV × Env × List AD × AH)) : Option (AX × Env × List AD × AH) := match r with
  | none => none
  | some (p, E1, D1, S1) => match p with
    | none => k E1 D1 S1
    | some v => some (.pan v, E1, D1, S1)
noncomputable def oGen (kn : Nat → Bool) (call : CallF) (o : OpI) (k : K) : K := fun E D S => gRes k (evOp kn call o E D S)
noncomputable def oC (call : CallF) (d : Option Nat) (f : Nat) (args : List Opd) (k : K) : K := fun E D S => match call f (opds E args) S with
  | none => none
  | some (r, S1) => match r with
    | .ret v => k (putO E d v) D S1
    | .pan v => some (.pan v, E, D, S1)
noncomputable def oG (t : Nat) (b : Bool) (d : Option Nat) (kw k : K) : K := fun E D S => match want (some (t, b)) E with
  | none => none
  | some false => k (putO E d (.tup [])) D S
  | some true => kw E D S

noncomputable def hPick (c a b : Env → AV) : Env → AH → Option AV := fun E _ => match c E with
  | .bool t => match t with
    | true => some (a E)
    | false => some (b E)
  | _ => none
noncomputable def hBox (x : Env → AV) : Env → AH → Option (AV × AH) := fun E S => ebox (x E) S
noncomputable def hLd (sh : Option Nat) (x : Env → AV) : Env → AH → Option (AV × AH) := fun E S => eload sh (x E) S
noncomputable def hSt (n : Nat) (x y : Env → AV) : Env → AH → Option (AV × AH) := fun E S => estore n (x E) (y E) S
noncomputable def hBs (z : List AV) (n : Nat) (ps : List (Nat × Nat × Opd)) : Env → AH → Option (AV × AH) := fun E S => ebslice z n (parts E ps) S
noncomputable def hBu (z : List AV) (ps : List (Nat × Nat × Opd)) : Env → AH → Option (AV × AH) := fun E S => ebuild z (parts E ps) S
noncomputable def hNk (x : Env → AV) : Env → AH → Option AV := fun E _ => enilck (x E)
noncomputable def hNum (op : BinOp) (x y : Env → AV) : Env → AH → Option AV := fun E _ => enum op (x E) (y E)
noncomputable def hEq (neg ag : Bool) (ks : List CK) (cst : Bool) (x y : Env → AV) : Env → AH → Option AV := fun E S => eeqv neg ag ks cst (x E) (y E) S
noncomputable def hUn (op : UnOp) (x : Env → AV) : Env → AH → Option AV := fun E _ => eun op (x E)
noncomputable def hFa (off : Nat) (x : Env → AV) : Env → AH → Option AV := fun E _ => efa off (x E)
noncomputable def hFld (sh : Option Nat) (off : Nat) (x : Env → AV) : Env → AH → Option AV := fun E _ => efld sh off (x E)
noncomputable def hIas (e : Nat) (x i : Env → AV) : Env → AH → Option AV := fun E _ => eias e (x E) (i E)
noncomputable def hExt (x : Env → AV) (k : Nat) : Env → AH → Option AV := fun E _ => eext (x E) k
noncomputable def hIxs (x i : Env → AV) : Env → AH → Option AV := fun E _ => eixs (x E) (i E)
noncomputable def hLen (d : TypeDesc) (x : Env → AV) : Env → AH → Option AV := fun E S => bif lenFit d (x E) then elen (x E) S else none
noncomputable def hApp (e b : Nat) (s x : Env → AV) : Env → AH → Option (AV × AH) := fun E S => bif strFit e (x E) then eapp e b (s E) (x E) S else none

noncomputable def cRun (kn : Nat → Bool) (call : CallF) (d : Option Nat) (op : IOp) : K → K := match op with
  | .mv x => oV d (cO x)
  | .pick c a b => oS d (hPick (cO c) (cO a) (cO b))
  | .box x => oR d (hBox (cO x))
  | .ld sh x => oR d (hLd sh (cO x))
  | .st n x y => oR d (hSt n (cO x) (cO y))
  | .bslice z n ps => oR d (hBs z n ps)
  | .build z ps => oR d (hBu z ps)
  | .nilck x => oS d (hNk (cO x))
  | .num o x y => oS d (hNum o (cO x) (cO y))
  | .eqv neg ag ks cst x y => oS d (hEq neg ag ks cst (cO x) (cO y))
  | .un o x => oS d (hUn o (cO x))
  | .fa off x => oS d (hFa off (cO x))
  | .fld sh off x => oS d (hFld sh off (cO x))
  | .ias e x i => oS d (hIas e (cO x) (cO i))
  | .ext x k => oS d (hExt (cO x) k)
  | .ixs x i => oS d (hIxs (cO x) (cO i))
  | .len t x => oS d (hLen t (cO x))
  | .app e b s x => oR d (hApp e b (cO s) (cO x))
  | .call f args => bif kn f then oC call d f args else fun _ => kNone
  | o => oGen kn call ⟨d, none, o⟩

noncomputable def cOp (kn : Nat → Bool) (call : CallF) (o : OpI) : K → K := match o.guard with
  | none => cRun kn call o.dst o.op
  | some g => fun k => oG g.1 g.2 o.dst (cRun kn call o.dst o.op k) k

noncomputable def cOps (kn : Nat → Bool) (call : CallF) (l : List OpI) : K :=
  List.rec (motive := fun _ => K) kSkip (fun o _ ih => cOp kn call o ih) l

noncomputable def cmp (kn : Nat → Bool) (call : CallF) (lf : Nat) (c : IC) : K :=
  IC.rec (motive := fun _ => K) kSkip (fun l => cOps kn call l) (fun n l => kDraw kn call n l) (fun _ _ a b => kSeq a b) (fun x _ _ a b => kCond x a b)
    (fun id _ b => kBlock id b) (fun _ b => kLoop b lf) kExit kRet kNone c

variable {kn : Nat → Bool} {call : CallF}

theorem rR (d : Option Nat) (o : IOp) (f : Env → AH → Option (AV × AH)) (k : K) (h : ∀ E S, ieval kn o E S = vR (f E S)) : oR d f k = fun E D S => gRes k (evOp kn call ⟨d, none, o⟩ E D S) := by
  funext E D S
  simp only [oR, gRes, evOp, want, h]
  cases f E S with
  | none => rfl
  | some r => rfl

theorem rS (d : Option Nat) (o : IOp) (f : Env → AH → Option AV) (k : K) (h : ∀ E S, ieval kn o E S = vS (f E S) S) : oS d f k = fun E D S => gRes k (evOp kn call ⟨d, none, o⟩ E D S) := by
  funext E D S
  simp only [oS, gRes, evOp, want, h]
  cases f E S with
  | none => rfl
  | some r => rfl

theorem cRun_eq (d : Option Nat) (o : IOp) (k : K) : cRun kn call d o k = fun E D S => gRes k (evOp kn call ⟨d, none, o⟩ E D S) := by
  cases o <;> simp only [cRun]
  case mv x => funext E D S; simp only [oV, gRes, evOp, want, ieval, cO_eq]
  case pick c a b =>
    funext E D S
    simp only [oS, gRes, evOp, want, ieval, hPick, cO_eq]
    generalize opd E c = v
    cases v <;> try rfl
    rename_i t
    cases t <;> rfl
  case box x => exact rR d _ _ k fun E S => by simp only [ieval, hBox, cO_eq]
  case ld sh x => exact rR d _ _ k fun E S => by simp only [ieval, hLd, cO_eq]
  case st n x y => exact rR d _ _ k fun E S => by simp only [ieval, hSt, cO_eq]
  case bslice z n ps => exact rR d _ _ k fun E S => by simp only [ieval, hBs]
  case build z ps => exact rR d _ _ k fun E S => by simp only [ieval, hBu]
  case nilck x => exact rS d _ _ k fun E S => by simp only [ieval, hNk, cO_eq]
  case num o x y => exact rS d _ _ k fun E S => by simp only [ieval, hNum, cO_eq]
  case eqv neg ag ks cst x y => exact rS d _ _ k fun E S => by simp only [ieval, hEq, cO_eq]
  case un o x => exact rS d _ _ k fun E S => by simp only [ieval, hUn, cO_eq]
  case fa off x => exact rS d _ _ k fun E S => by simp only [ieval, hFa, cO_eq]
  case fld sh off x => exact rS d _ _ k fun E S => by simp only [ieval, hFld, cO_eq]
  case ias e x i => exact rS d _ _ k fun E S => by simp only [ieval, hIas, cO_eq]
  case ext x n => exact rS d _ _ k fun E S => by simp only [ieval, hExt, cO_eq]
  case ixs x i => exact rS d _ _ k fun E S => by simp only [ieval, hIxs, cO_eq]
  case len t x =>
    refine rS d _ _ k fun E S => ?_
    simp only [ieval, hLen, cO_eq]
    cases lenFit t (opd E x) <;> rfl
  case app e b s x =>
    refine rR d _ _ k fun E S => ?_
    simp only [ieval, hApp, cO_eq]
    cases strFit e (opd E x) <;> rfl
  case call f args =>
    funext E D S
    cases hk : kn f with
    | false => simp only [gRes, evOp, want, ieval, hk, cond_false]; rfl
    | true =>
      simp only [gRes, evOp, want, ieval, hk, cond_true, oC]
      cases call f (opds E args) S with
      | none => rfl
      | some r =>
        obtain ⟨r, S1⟩ := r
        cases r <;> rfl
  all_goals rfl

theorem cOp_eq (o : OpI) (k : K) : cOp kn call o k = fun E D S => gRes k (evOp kn call o E D S) := by
  obtain ⟨d, g, o⟩ := o
  cases g with
  | none => exact cRun_eq d o k
  | some g =>
    obtain ⟨t, b⟩ := g
    funext E D S
    simp only [cOp, oG, cRun_eq]
    cases hw : want (some (t, b)) E with
    | none => simp only [gRes, evOp, hw]
    | some r =>
      cases r with
      | false => simp only [gRes, evOp, hw]
      | true => simp only [gRes, evOp, hw]; rfl

theorem cOps_eq : ∀ (l : List OpI), cOps kn call l = evOps kn call l
  | [] => rfl
  | o :: l => by
    show cOp kn call o (cOps kn call l) = _
    rw [cOp_eq, cOps_eq l]
    rfl

theorem cmp_eq (lf : Nat) (c : IC) : cmp kn call lf c = evC kn call lf c := by
  induction c with
  | skip => rfl
  | ops l => exact cOps_eq l
  | draw n l => rfl
  | seq a b iha ihb => show kSeq (cmp kn call lf a) (cmp kn call lf b) = _; rw [iha, ihb]; rfl
  | cond x a b iha ihb => show kCond x (cmp kn call lf a) (cmp kn call lf b) = _; rw [iha, ihb]; rfl
  | block id b ih => show kBlock id (cmp kn call lf b) = _; rw [ih]; rfl
  | loop b ih => show kLoop (cmp kn call lf b) lf = _; rw [ih]; rfl
  | exit id => rfl
  | ret => rfl
  | bad => rfl

end Go.Eng

/- What some functions of Go's library come to, told to the evaluator: each is a contract, proved apart, put into the evaluator's own terms. -/
set_option linter.unusedSimpArgs false
set_option linter.unusedVariables false
namespace Go.Eng
open Go.RowKit Go.Proofs
variable {P : Program} {G : Nat} {μ : Mp} {S S' : AH} {w w' : World}

theorem Rel.below (h : Rel G μ S w) {B : Nat} (hB : w.heap.size ≤ B) (hb : Below B w w') : Rel G μ S w' ∧ Ext μ S w μ S w' := by
  refine ⟨⟨fun b k hk => ?_, h.inj, h.lt, h.glob⟩, ⟨fun _ _ h => h, fun _ _ h => .inl h, Nat.le_refl _, hb.os, hb.tape, hb.output, hb.size, fun cb hcb _ => hb.block cb (by omega), fun b k L hk hL => .inr ⟨b, k, L, hk, hL, rfl, id⟩⟩⟩
  obtain ⟨L, hL, hbr⟩ := h.blk b k hk
  exact ⟨L, hL, hbr.congr (hb.block _ (by have := hbr.lt; omega))⟩

/-- a block that a call has made -/
theorem Rel.made (h : Rel G μ S w) (hf : μ S.n = none) (hb : Below w.heap.size w w') {L : Loc} {k : ABlk} (hg : w.heap.size ≤ L.blk) (hbr : BR (μ.upd S.n L) L k w') :
    Rel G (μ.upd S.n L) (S.alloc k) w' ∧ Ext μ S w (μ.upd S.n L) (S.alloc k) w' := by
  have hle := μ.upd_le S.n L hf
  have hget : ∀ b k', (S.alloc k).h.get b = some k' → (b = S.n ∧ k' = k) ∨ (b ≠ S.n ∧ S.h.get b = some k') := by
    intro b k' hb'
    simp only [AH.alloc] at hb'
    rw [Tr.get_put] at hb'
    split at hb'
    · rename_i e1; cases hb'; exact .inl ⟨e1.symm, rfl⟩
    · rename_i e1; exact .inr ⟨fun e' => e1 e'.symm, hb'⟩
  have hold : ∀ b k' L', b ≠ S.n → S.h.get b = some k' → (μ.upd S.n L) b = some L' → μ b = some L' ∧ L'.blk < w.heap.size := by
    intro b k' L' hne hk hL'
    rw [Mp.upd_ne _ _ hne] at hL'
    obtain ⟨K, hK, hbr'⟩ := h.blk b k' hk
    rw [hL'] at hK; cases hK
    exact ⟨hL', hbr'.lt⟩
  refine ⟨⟨?_, ?_, ?_, fun g hg => let ⟨r, hr⟩ := h.glob g hg; ⟨r, hle _ _ hr⟩⟩, ⟨hle, ?_, by simp [AH.alloc], hb.os, hb.tape, hb.output, hb.size, fun cb hcb _ => hb.block cb hcb, ?_⟩⟩
  · intro b k' hb'
    rcases hget b k' hb' with ⟨rfl, rfl⟩ | ⟨hne, hk⟩
    · exact ⟨L, Mp.upd_same _ _ _, hbr⟩
    · obtain ⟨K, hK, hbr'⟩ := h.blk b k' hk
      exact ⟨K, hle _ _ hK, (hbr'.mono hle).congr (hb.block _ hbr'.lt)⟩
  · intro b1 b2 k1 k2 L1 L2 h1 h2 hL1 hL2 he
    rcases hget b1 k1 h1 with ⟨e1, _⟩ | ⟨n1, g1⟩ <;> rcases hget b2 k2 h2 with ⟨e2, _⟩ | ⟨n2, g2⟩
    · rw [e1, e2]
    · exfalso
      subst e1
      rw [Mp.upd_same] at hL1; cases hL1
      have := (hold b2 k2 L2 n2 g2 hL2).2
      omega
    · exfalso
      subst e2
      rw [Mp.upd_same] at hL2; cases hL2
      have := (hold b1 k1 L1 n1 g1 hL1).2
      omega
    · exact h.inj b1 b2 k1 k2 L1 L2 g1 g2 (hold b1 k1 L1 n1 g1 hL1).1 (hold b2 k2 L2 n2 g2 hL2).1 he
  · intro b k' hb'
    rcases hget b k' hb' with ⟨rfl, _⟩ | ⟨_, hk⟩
    · simp [AH.alloc]
    · have := h.lt b k' hk; simp only [AH.alloc]; omega
  · intro b L' hL'
    by_cases e : b = S.n
    · subst e; exact .inr ⟨Nat.le_refl _, by simp [AH.alloc]⟩
    · rw [Mp.upd_ne _ _ e] at hL'; exact .inl hL'
  · intro b k' L' hb' hL'
    rcases hget b k' hb' with ⟨rfl, _⟩ | ⟨hne, hk⟩
    · rw [Mp.upd_same] at hL'; cases hL'; exact .inl hg
    · exact .inr ⟨b, k', L', hk, (hold b k' L' hne hk hL').1, rfl, id⟩

theorem nbeq {a b : Nat} (h : a ≠ b) : Nat.beq a b = false := by
  cases hb : Nat.beq a b with
  | false => rfl
  | true => exact absurd (Nat.eq_of_beq_eq_true hb) h

/-! internal/bytealg.CompareString -/

noncomputable def xCmp (args : List AV) (S : AH) : Option (CR × AH) :=
  match args with
  | [.str a, .str b] => some (.ret (.int .i64 (bif seq a b then .ofNat 0 else bif slt a b then .negSucc 0 else .ofNat 1)), S)
  | _ => none

theorem cmp_bytes : ∀ (x y : List UInt8), Lib.compareBytes x y = (bif seq (x.map UInt8.toNat) (y.map UInt8.toNat) then (.ofNat 0 : Int) else bif slt (x.map UInt8.toNat) (y.map UInt8.toNat) then .negSucc 0 else .ofNat 1)
  | [], [] => rfl
  | [], _ :: _ => rfl
  | _ :: _, [] => rfl
  | a :: x, b :: y => by
    have ih := cmp_bytes x y
    simp only [Lib.compareBytes, List.map_cons, seq, slt]
    by_cases h1 : a < b
    · have e1 : a.toNat < b.toNat := UInt8.lt_iff_toNat_lt.1 h1
      have e2 : Nat.beq a.toNat b.toNat = false := nbeq (by omega)
      have e3 : Nat.blt a.toNat b.toNat = true := by simp [Nat.blt_eq, e1]
      simp [h1, e2, e3]
    · by_cases h2 : b < a
      · have e1 : b.toNat < a.toNat := UInt8.lt_iff_toNat_lt.1 h2
        have e2 : Nat.beq a.toNat b.toNat = false := nbeq (by omega)
        have e3 : Nat.blt a.toNat b.toNat = false := by
          cases h : Nat.blt a.toNat b.toNat with
          | false => rfl
          | true => rw [Nat.blt_eq] at h; omega
        simp [h1, h2, e2, e3]
      · have e : a = b := by
          have e1 : ¬ a.toNat < b.toNat := fun h => h1 (UInt8.lt_iff_toNat_lt.2 h)
          have e2 : ¬ b.toNat < a.toNat := fun h => h2 (UInt8.lt_iff_toNat_lt.2 h)
          exact UInt8.toNat_inj.1 (by omega)
        subst e
        simp [ih]

/-- the contract of a function of two strings -/
def CmpAt (P : Program) (f : Nat) : Prop := ∀ (a b : ByteArray) (w : World), Calls P f #[.string a, .string b] w fun e w' => e = .returned (.int .i64 (Lib.compareBytes a.data.toList b.data.toList)) ∧ w' = w

theorem xCmp_ok {f : Nat} (hc : CmpAt P f) {args : List AV} {r : CR} (h : xCmp args S = some (r, S')) : S.n ≤ S'.n ∧ ∀ μ w (vs : Array Value), Rel G μ S w → VRL μ args vs.toList → Fresh μ S S' → Calls P f vs w (CallPost G μ S w r S') := by
  unfold xCmp at h
  split at h
  · cases h
    refine ⟨Nat.le_refl _, fun μ w vs hR hv _ => ?_⟩
    obtain ⟨l⟩ := vs
    match l, hv with
    | [v1, v2], hv =>
      simp only [VRL, VR] at hv
      obtain ⟨⟨s1, rfl, e1⟩, ⟨s2, rfl, e2⟩, _⟩ := hv
      refine (hc s1 s2 w).mono ?_
      rintro e w' ⟨rfl, rfl⟩
      refine ⟨μ, hR, Ext.refl _ _ _, _, rfl, ?_⟩
      simp only [VR]
      rw [cmp_bytes, e1, e2]
    | [], hv => simp [VRL] at hv
    | [_], hv => simp [VRL] at hv
    | _ :: _ :: _ :: _, hv => simp [VRL] at hv
  · cases h

/-! slices.AppendSeq(nil, slices.Values(l)) -/

def AV.isStr : AV → Bool
  | .str _ => true
  | _ => false

noncomputable def xSeq (g : Nat) (args : List AV) (S : AH) : Option (CR × AH) :=
  match args with
  | [.nils, .fn (.func g') [] [.ptr b o]] => bif Nat.beq g g' then (match eload none (.ptr b o) S with
    | some (x, _) => (match x with
      | .nils => some (.ret .nils, S)
      | .sl b2 o2 n _ 1 _ => match n with
        | 0 => match S.h.get b2 with
          | some _ => some (.ret .nils, S)
          | none => none
        | k + 1 => bif Nat.ble (k + 1) 1000000 then (match S.h.get b2 with
          | some (.cells ct _ _ _) => match ct.getL (k + 1) o2 with
            | some xs => bif xs.all AV.isStr then some (.ret (.sl S.n 0 (k + 1) (k + 1) 1 false), S.row xs true) else none
            | none => none
          | _ => none) else none
      | _ => none)
    | none => none) else none
  | _ => none

def Strs (n₀ : Nat) (W : World) (sv : Value) (zs : List (List UInt8)) : Prop :=
  (sv = .slice none 0 0 ∧ zs = []) ∨ ∃ b off cap, sv = .slice (some ⟨b, off, none⟩) zs.length cap ∧ b < n₀ ∧ ∀ j (h : j < zs.length), W.cell? ⟨b, off + j, none⟩ = some (encStr (zs[j]))

/-- the contract: f, the iterator's closure, the element's type -/
def SeqAt (P : Program) (f g t : Nat) : Prop := ∀ (N : Nat) (_ : N ≤ maxLen) (_ : N * 16 ≤ 140737488355328) (w : World) (Bs ob : Nat) (_ : Bs < w.heap.size) (sv : Value) (zs : List (List UInt8)) (_ : zs.length ≤ N) (_ : w.cell? ⟨Bs, ob, none⟩ = some sv) (_ : Strs w.heap.size w sv zs),
  Calls P f #[.slice none 0 0, .func (.func g) #[] #[.pointer (some ⟨Bs, ob, none⟩)]] w fun e w' => ∃ (v : Value) (ss : List (List UInt8)), e = .returned v ∧ ss = zs ∧ w'.ownsRow w.heap.size t 1 v ss.length (ss.map encStr) ∧ (v = .slice none 0 0 ↔ ss = []) ∧ Below w.heap.size w w'

theorem str_list {μ : Mp} : ∀ {xs : List AV} {vs : List Value}, VRL μ xs vs → xs.all AV.isStr = true → ∃ zs : List (List UInt8), zs.length = xs.length ∧ vs = zs.map encStr ∧ VRL μ xs (zs.map encStr)
  | [], [], _, _ => ⟨[], rfl, rfl, by simp [VRL]⟩
  | x :: xs, v :: vs, h, hs => by
    simp only [VRL] at h
    simp only [List.all_cons, Bool.and_eq_true] at hs
    obtain ⟨zs, h1, rfl, h3⟩ := str_list h.2 hs.2
    cases x <;> simp only [AV.isStr, Bool.false_eq_true, false_and] at hs
    have h0 := h.1
    simp only [VR] at h0
    obtain ⟨s, rfl, e⟩ := h0
    refine ⟨s.data.toList :: zs, by simp [h1], by simp [encStr], ?_⟩
    simp only [List.map_cons, VRL]
    refine ⟨?_, h3⟩
    simp only [VR, encStr]
    exact ⟨_, rfl, by simpa using e⟩
  | [], _ :: _, h, _ => by simp [VRL] at h
  | _ :: _, [], h, _ => by simp [VRL] at h

theorem xSeq_ok {f g t : Nat} (hc : SeqAt P f g t) {args : List AV} {r : CR} (h : xSeq g args S = some (r, S')) : S.n ≤ S'.n ∧ ∀ μ w (vs : Array Value), Rel G μ S w → VRL μ args vs.toList → Fresh μ S S' → Calls P f vs w (CallPost G μ S w r S') := by
  unfold xSeq at h
  split at h
  · rename_i g' b o
    cases hg : Nat.beq g g' with
    | false => rw [hg] at h; cases h
    | true =>
      have hgg := Nat.eq_of_beq_eq_true hg
      subst hgg
      rw [hg, cond_true] at h
      -- the arguments
      have hargs : ∀ μ (vs : Array Value), VRL μ [.nils, .fn (.func g) [] [.ptr b o]] vs.toList → ∃ L, μ b = some L ∧ vs = #[.slice none 0 0, .func (.func g) #[] #[.pointer (some ⟨L.blk, L.off + o, none⟩)]] := by
        intro μ vs hv
        obtain ⟨l⟩ := vs
        match l, hv with
        | [v1, v2], hv =>
          simp only [VRL, VR] at hv
          obtain ⟨rfl, ⟨fs, cs, rfl, h1, h2⟩, _⟩ := hv
          obtain ⟨fs⟩ := fs
          obtain ⟨cs⟩ := cs
          match fs, h1 with
          | [], _ =>
            match cs, h2 with
            | [c], h2 =>
              simp only [VRL, VR] at h2
              obtain ⟨⟨L, hL, rfl⟩, _⟩ := h2
              exact ⟨L, hL, rfl⟩
            | [], h2 => simp [VRL] at h2
            | _ :: _ :: _, h2 => simp [VRL] at h2
          | _ :: _, h1 => simp [VRL] at h1
        | [], hv => simp [VRL] at hv
        | [_], hv => simp [VRL] at hv
        | _ :: _ :: _ :: _, hv => simp [VRL] at hv
      -- the box
      have hbox : ∀ {x : AV} {S1 : AH}, eload none (.ptr b o) S = some (x, S1) → ∀ μ w L, Rel G μ S w → μ b = some L → L.blk < w.heap.size ∧ ∃ v, w.cell? ⟨L.blk, L.off + o, none⟩ = some v ∧ VR μ x v := by
        intro x S1 hx μ w L hR hL
        unfold eload at hx
        simp only at hx
        split at hx
        · rename_i ct kn wr pl hget
          split at hx
          · rename_i v hv
            cases hx
            obtain ⟨L', hL', hbr⟩ := hR.blk _ _ hget
            rw [hL] at hL'; cases hL'
            exact ⟨hbr.lt, hR.cell hget hv hL⟩
          · cases hx
        · cases hx
      -- nothing came
      have none' : ∀ {x : AV} {S1 : AH}, eload none (.ptr b o) S = some (x, S1) → (∀ μ v, VR μ x v → (v = .slice none 0 0 ∨ ∃ b off cap, v = .slice (some ⟨b, off, none⟩) 0 cap ∧ ∃ b2 L2, (∃ k, S.h.get b2 = some k) ∧ μ b2 = some L2 ∧ L2.blk = b)) →
          r = .ret .nils → S' = S → S.n ≤ S'.n ∧ ∀ μ w (vs : Array Value), Rel G μ S w → VRL μ [.nils, .fn (.func g) [] [.ptr b o]] vs.toList → Fresh μ S S' → Calls P f vs w (CallPost G μ S w r S') := by
        intro x S1 hx hv hr hS
        subst hr; subst hS
        refine ⟨Nat.le_refl _, fun μ w vs hR hvs _ => ?_⟩
        obtain ⟨L, hL, rfl⟩ := hargs μ vs hvs
        obtain ⟨hlt, v, hcell, hvr⟩ := hbox hx μ w L hR hL
        have hI : Strs w.heap.size w v [] := by
          rcases hv μ v hvr with rfl | ⟨b', off, cap, rfl, b2, L2, ⟨k, hk⟩, hL2, rfl⟩
          · exact .inl ⟨rfl, rfl⟩
          · obtain ⟨L3, hL3, hbr⟩ := hR.blk _ _ hk
            rw [hL2] at hL3; cases hL3
            exact .inr ⟨L2.blk, off, cap, rfl, hbr.lt, fun j hj => by simp at hj⟩
        refine (hc 0 (by decide) (by decide) w L.blk (L.off + o) hlt v [] (Nat.le_refl _) hcell hI).mono ?_
        rintro e w' ⟨v', ss, rfl, rfl, _, hnil, hb⟩
        obtain ⟨g1, g2⟩ := hR.below (Nat.le_refl _) hb
        exact ⟨μ, g1, g2, v', rfl, by simp only [VR]; exact hnil.2 rfl⟩
      split at h
      · rename_i x S1 hx
        split at h
        · cases h
          exact none' hx (fun μ v hv => .inl (by simpa [VR] using hv)) rfl rfl
        · rename_i b2 o2 n c1 c2
          split at h
          · split at h
            · rename_i kb hkb
              cases h
              refine none' hx (fun μ v hv => ?_) rfl rfl
              simp only [VR] at hv
              obtain ⟨L2, c, hL2, rfl, _⟩ := hv
              exact .inr ⟨L2.blk, L2.off + o2, c, rfl, b2, L2, ⟨kb, hkb⟩, hL2, rfl⟩
            · cases h
          · rename_i k
            cases hsz : Nat.ble (k + 1) 1000000 with
            | false => rw [hsz] at h; cases h
            | true =>
              rw [hsz, cond_true] at h
              have hsz' := Nat.le_of_ble_eq_true hsz
              split at h
              · rename_i ct kn wr pl hget
                split at h
                · rename_i xs hxs
                  cases hstr : xs.all AV.isStr with
                  | false => rw [hstr] at h; cases h
                  | true =>
                    rw [hstr, cond_true] at h
                    cases h
                    refine ⟨by simp [AH.row, AH.alloc], fun μ w vs hR hvs hf => ?_⟩
                    obtain ⟨L, hL, rfl⟩ := hargs μ vs hvs
                    obtain ⟨hlt, v, hcell, hvr⟩ := hbox hx μ w L hR hL
                    simp only [VR] at hvr
                    obtain ⟨L2, c, hL2, rfl, _⟩ := hvr
                    obtain ⟨vs', hc1, hc2, hc3, _⟩ := hR.cellsAt P hget hxs hL2
                    obtain ⟨zs, z1, rfl, z3⟩ := str_list hc3 hstr
                    have hzl : zs.length = k + 1 := by simpa using hc2
                    obtain ⟨L3, hL3, hbr3⟩ := hR.blk _ _ hget
                    rw [hL2] at hL3; cases hL3
                    have hI : Strs w.heap.size w (.slice (some ⟨L2.blk, L2.off + o2, none⟩) (k + 1) c) zs := by
                      refine .inr ⟨L2.blk, L2.off + o2, c, by rw [hzl], hbr3.lt, fun j hj => ?_⟩
                      exact hc1 j _ (by simp [hj])
                    refine (hc 1000000 (by decide) (by decide) w L.blk (L.off + o) hlt _ zs (by omega) hcell hI).mono ?_
                    rintro e w' ⟨v', ss, rfl, rfl, hown, hnil, hb⟩
                    rcases hown.2 with ⟨rfl, h0⟩ | ⟨gb, cap, cur, rfl, hgb, hcur, hcap, hcm, hcs, htake⟩
                    · have := hnil.1 rfl
                      rw [this] at hzl; simp at hzl
                    · have hfr : μ S.n = none := hf.next (by simp [AH.row, AH.alloc])
                      obtain ⟨g1, g2⟩ := hR.made (L := ⟨gb, 0, cap⟩) (k := .cells (Tr.putL xs 0 .e) xs.length true true) hfr hb hgb (by
                        refine ⟨cur, t, 0, 0, hcur, by simp [hcs], by simp, by simp, ?_⟩
                        intro i y hy
                        rw [Tr.get_putL] at hy
                        split at hy
                        · rename_i hi
                          simp only [Nat.sub_zero] at hy
                          obtain ⟨v, hv, hr⟩ := z3.get i y hy
                          simp only [Nat.zero_add]
                          refine ⟨by omega, by omega, v, ?_, hr.mono (μ.upd_le _ _ hfr)⟩
                          have : cur.toList[i]? = some v := by
                            rw [← htake] at hv
                            rw [List.getElem?_take] at hv
                            split at hv
                            · exact hv
                            · cases hv
                          simpa using this
                        · rw [Tr.get_e] at hy; cases hy)
                      refine ⟨_, g1, g2, _, rfl, ?_⟩
                      simp only [VR]
                      exact ⟨⟨gb, 0, cap⟩, cap, Mp.upd_same _ _ _, by simp [hzl], by omega, by simp, by simp, Nat.le_refl _⟩
                · cases h
              · cases h
        · cases h
      · cases h
  · cases h

end Go.Eng

/- Tables of functions, and what is to be shown of them, entry by entry. -/
set_option linter.unusedSimpArgs false
set_option linter.unusedVariables false
namespace Go.Eng
variable {P : Program} {kn : Nat → Bool}

/-- a function made ready -/
noncomputable def shOf (P : Program) (kn : Nat → Bool) (fn : Func) : Option SFn :=
  match cfn P fn with
  | none => none
  | some ir => some ⟨fun call lf => cmp kn call lf ir.body, ir.res⟩

def EntryOK (P : Program) (kn : Nat → Bool) (f : Nat) (sf : SFn) : Prop := ∃ fn, P.funcs[f]? = some fn ∧ shOf P kn fn = some sf
def DefOK (P : Program) (f : Nat) (ir : FnIR) : Prop := ∃ fn, P.funcs[f]? = some fn ∧ cfn P fn = some ir
def KnOK (P : Program) (f : Nat) (_ : Unit) : Prop := ∃ fn, P.funcs[f]? = some fn ∧ fn.body.isSome = true ∧ fn.name ≠ "runtime.NumGoroutine"

theorem kn_ok {f : Nat} {fn : Func} (h : P.funcs[f]? = some fn) (hb : fn.body.isSome = true) (hn : (fn.name == "runtime.NumGoroutine") = false) : KnOK P f () :=
  ⟨fn, h, hb, by simpa using hn⟩

def AllT {α : Type} (p : Nat → α → Prop) : Tr α → (Nat → Nat) → Prop
  | .e, _ => True
  | .n l v r, g => (match v with | none => True | some x => p (g 0) x) ∧ AllT p l (fun i => g (2 * i + 1)) ∧ AllT p r (fun i => g (2 * i + 2))

theorem allT_get {α : Type} {p : Nat → α → Prop} : ∀ {t : Tr α} {g : Nat → Nat}, AllT p t g → ∀ {i : Nat} {x : α}, t.get i = some x → p (g i) x
  | .e, _, _, i, x, h => by rw [Tr.get_e] at h; cases h
  | .n l v r, g, ha, i, x, h => by
    simp only [AllT] at ha
    cases i with
    | zero =>
      rw [Tr.get_zero] at h
      subst h
      exact ha.1
    | succ k =>
      rw [Tr.get_succ] at h
      split at h
      · rename_i hk
        have := allT_get ha.2.1 h
        have e : 2 * (k / 2) + 1 = k + 1 := by omega
        simpa only [e] using this
      · rename_i hk
        have := allT_get ha.2.2 h
        have e : 2 * (k / 2) + 2 = k + 1 := by omega
        simpa only [e] using this

theorem stable_ok {t : Tr SFn} (h : AllT (EntryOK P kn) t id) : STableOK P kn t.get := by
  intro f sf hf
  obtain ⟨fn, h1, h2⟩ := allT_get h hf
  unfold shOf at h2
  split at h2
  · cases h2
  · rename_i ir hir
    cases h2
    exact ⟨fn, ir, h1, hir, fun call lf => cmp_eq lf ir.body, rfl⟩

theorem table_ok {t : Tr FnIR} (h : AllT (DefOK P) t id) : TableOK P t.get := by
  intro f ir hf
  exact allT_get h hf

noncomputable def knOf (t : Tr Unit) (f : Nat) : Bool := match t.get f with
  | some _ => true
  | none => false

theorem known_ok {t : Tr Unit} (h : AllT (KnOK P) t id) : Known P (knOf t) := by
  intro f hf
  unfold knOf at hf
  split at hf
  · rename_i u hu
    exact allT_get h hu
  · cases hf

/-- a few functions that stand for themselves -/
noncomputable def ovrOf (l : List (Nat × (List AV → AH → Option (CR × AH)))) (f : Nat) (args : List AV) (S : AH) : Option (CR × AH) :=
  List.rec (motive := fun _ => Option (CR × AH)) none (fun p _ ih => bif Nat.beq f p.1 then p.2 args S else ih) l

def OvrOK (P : Program) (G f : Nat) (x : List AV → AH → Option (CR × AH)) : Prop :=
  ∀ {args : List AV} {S : AH} {r : CR} {S' : AH}, x args S = some (r, S') → S.n ≤ S'.n ∧ ∀ μ w (vs : Array Value), Rel G μ S w → VRL μ args vs.toList → Fresh μ S S' → Calls P f vs w (CallPost G μ S w r S')

theorem ovr_nil {G : Nat} : CallOK P G (ovrOf []) := fun f args S r S' h => by cases h
theorem ovr_cons {G : Nat} {p : Nat × (List AV → AH → Option (CR × AH))} {l : List (Nat × (List AV → AH → Option (CR × AH)))} (h1 : OvrOK P G p.1 p.2) (h2 : CallOK P G (ovrOf l)) : CallOK P G (ovrOf (p :: l)) := by
  intro f args S r S' h
  have h : (bif Nat.beq f p.1 then p.2 args S else ovrOf l f args S) = some (r, S') := h
  cases hb : Nat.beq f p.1 with
  | true =>
    rw [hb, cond_true] at h
    rw [Nat.eq_of_beq_eq_true hb]
    exact h1 h
  | false =>
    rw [hb, cond_false] at h
    exact h2 f args S r S' h

end Go.Eng

/- The evaluator begun at any world: nothing that lay there turns. -/
set_option linter.unusedSimpArgs false
set_option linter.unusedVariables false
namespace Go.Eng
open Go.RowKit
variable {P : Program} {G N : Nat} {w w' : World}

/-- nothing but the package's variables is known -/
def mu0 (G : Nat) : Mp := fun b => if b < G then some ⟨b, 0, 0⟩ else none

theorem rel0 (G : Nat) (w : World) : Rel G (mu0 G) ⟨.e, G⟩ w :=
  ⟨fun b k h => by (rw [Tr.get_e] at h; cases h), fun b b' k k' L L' h => by (rw [Tr.get_e] at h; cases h), fun b k h => by (rw [Tr.get_e] at h; cases h), fun g hg => ⟨0, by simp [mu0, hg]⟩⟩

theorem fresh0 (G : Nat) (S' : AH) : Fresh (mu0 G) ⟨.e, G⟩ S' := by
  intro b h1 h2
  have h1 : G ≤ b := h1
  simp [mu0]; omega

theorem ext_below {μ μ' : Mp} {S' : AH} {n : Nat} (h : Ext μ ⟨.e, n⟩ w μ' S' w') : Below w.heap.size w w' :=
  ⟨h.os, h.tape, h.output, h.size, fun cb hcb => h.frame cb hcb fun b k L hb => by rw [Tr.get_e] at hb; cases hb⟩

/-- a call that hands back a bool -/
theorem call_bool {f : Nat} {args : List AV} {vs : Array Value} {S' : AH} {b : Bool} {call : CallF} (hc : CallOK P G call) (hv : VRL (mu0 G) args vs.toList) (h : call f args ⟨.e, G⟩ = some (.ret (.bool b), S')) :
    Calls P f vs w fun e w' => e = .returned (.bool b) ∧ Below w.heap.size w w' := by
  refine ((hc _ _ _ _ _ h).2 (mu0 G) w vs (rel0 G w) hv (fresh0 G S')).mono ?_
  rintro e w' ⟨μ', h1, h2, v', rfl, h3⟩
  simp only [VR] at h3
  subst h3
  exact ⟨rfl, ext_below h2⟩

/-- is it this bool? -/
noncomputable def isBool (b : Bool) (r : Option (CR × AH)) : Bool := match r with
  | some (.ret (.bool c), _) => match b, c with | true, true => true | false, false => true | _, _ => false
  | _ => false

theorem isBool_spec {b : Bool} {r : Option (CR × AH)} (h : isBool b r = true) : ∃ S', r = some (.ret (.bool b), S') := by
  unfold isBool at h
  split at h
  · rename_i c S'
    cases b <;> cases c <;> first | exact ⟨S', rfl⟩ | cases h
  · cases h

/-- a stretch of code -/
theorem seg {c : Code} {k : K} (hk : KOK P N c k) {E' : Env} {S' : AH} {x : AX} (h : k .e [] ⟨.e, P.globals.size⟩ = some (x, E', [], S')) {Q : Exit → Act → World → Prop} {a : Act} (ha : N ≤ a.tmps.size) (hd : a.defers = [])
    (hQ : ∀ a' w' e, Below w.heap.size w w' → N ≤ a'.tmps.size → a'.defers = [] → (∀ i b, E'.get i = some (.bool b) → a'.tmps.getD i undef = .bool b) → (∃ μ', XR μ' x e) → Q e a' w') : c.wp P Q a w := by
  refine (hk _ _ _ _ _ _ _ h).2 (mu0 _) w a Q (rel0 _ w) ⟨ha, fun i x hx => by rw [Tr.get_e] at hx; cases hx⟩ (by rw [hd]; trivial) (fresh0 _ _) ?_
  intro μ' a' w' e h1 h2 h3 h4 h5
  refine hQ a' w' e (ext_below h2) h3.size ?_ (fun i b hb => ?_) ⟨μ', h5⟩
  · cases hdd : a'.defers with
    | nil => rfl
    | cons d l => rw [hdd] at h4; exact h4.elim
  · have := h3.get i _ hb
    simpa only [VR] using this

/-- what a stretch comes to: how it ends, and a bool in a slot -/
noncomputable def endsB (ret : Bool) (i : Nat) (b : Bool) (r : Option (AX × Env × List AD × AH)) : Bool := match r with
  | some (x, E', D', _) => match D' with
    | [] => match x, ret with
      | .normal, false => match E'.get i with
        | some (.bool c) => match b, c with | true, true => true | false, false => true | _, _ => false
        | _ => false
      | .ret, true => match E'.get i with
        | some (.bool c) => match b, c with | true, true => true | false, false => true | _, _ => false
        | _ => false
      | _, _ => false
    | _ :: _ => false
  | none => false

theorem endsB_spec {ret : Bool} {i : Nat} {b : Bool} {r : Option (AX × Env × List AD × AH)} (h : endsB ret i b r = true) : ∃ E' S', r = some (if ret then .ret else .normal, E', [], S') ∧ E'.get i = some (.bool b) := by
  unfold endsB at h
  split at h
  · rename_i x E' D' S'
    split at h
    · split at h
      · split at h
        · rename_i c hc
          refine ⟨E', S', rfl, ?_⟩
          cases b <;> cases c <;> first | exact hc | cases h
        · cases h
      · split at h
        · rename_i c hc
          refine ⟨E', S', rfl, ?_⟩
          cases b <;> cases c <;> first | exact hc | cases h
        · cases h
      · cases h
    · cases h
  · cases h

/-- a stretch of code, begun with something in its slots -/
theorem seg2 {c : Code} {k : K} (hk : KOK P N c k) {μ : Mp} {n0 : Nat} {E E' : Env} {S' : AH} {x : AX} (h : k E [] ⟨.e, n0⟩ = some (x, E', [], S')) {Q : Exit → Act → World → Prop} {a : Act}
    (hR : Rel P.globals.size μ ⟨.e, n0⟩ w) (hf : ∀ b, n0 ≤ b → μ b = none) (hE : EnvR N μ E a) (hd : a.defers = [])
    (hQ : ∀ μ' a' w' e, μ.le μ' → Below w.heap.size w w' → EnvR N μ' E' a' → a'.defers = [] → XR μ' x e → Q e a' w') : c.wp P Q a w := by
  refine (hk _ _ _ _ _ _ _ h).2 μ w a Q hR hE (by rw [hd]; trivial) (fun b h1 h2 => hf b h1) ?_
  intro μ' a' w' e h1 h2 h3 h4 h5
  refine hQ μ' a' w' e h2.mono (ext_below h2) h3 ?_ h5
  cases hdd : a'.defers with
  | nil => rfl
  | cons d l => rw [hdd] at h4; exact h4.elim

/-- an argument in slot 0, and nothing else -/
noncomputable def arg0 (x : AV) : Env := Tr.put .e (some x) 0

theorem env_arg0 {μ : Mp} {x : AV} {a : Act} (ha : N ≤ a.tmps.size) (hx : VR μ x (a.tmps.getD 0 undef)) : EnvR N μ (arg0 x) a := by
  refine ⟨ha, fun i y hy => ?_⟩
  unfold arg0 at hy
  rw [Tr.get_put] at hy
  split at hy
  · rename_i e; subst e; cases hy; exact hx
  · rw [Tr.get_e] at hy; cases hy

noncomputable def outN (r : Option (AX × Env × List AD × AH)) : Option (Option AV) := match r with
  | some (x, E', D', _) => match D' with
    | [] => match x with
      | .normal => some (E'.get 0)
      | _ => none
    | _ :: _ => none
  | none => none

theorem outN_spec {x : AV} {r : Option (AX × Env × List AD × AH)} (h : outN r = some (some x)) : ∃ E' S', r = some (.normal, E', [], S') ∧ E'.get 0 = some x := by
  unfold outN at h
  split at h
  · rename_i y E' D' S'
    split at h
    · split at h
      · exact ⟨E', S', rfl, by simpa using h⟩
      · cases h
    · cases h
  · cases h

end Go.Eng
