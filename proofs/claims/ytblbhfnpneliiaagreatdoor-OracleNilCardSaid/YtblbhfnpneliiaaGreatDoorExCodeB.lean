/- The exact evaluator, part 16: code, all of it. -/
import Derived.Test.YtblbhfnpneliiaaGreatDoorExCode
namespace Go.Ex
open Go.RowKit
open Go.Ab (reach Clo opsIn opsIn_spec Wrote)
section
variable {c : Cx} {nt : Nat} {ro : Option Nat} {r : Rec} {rnd : Bool}
theorem CodeDo.here {W : (Exit → Act → World → Prop) → Act → World → Prop} {x : Xt} {s : S} (h : ∀ Q a w, Q (xOf x) a w → W Q a w) : CodeDo c nt W x s s :=
  fun w0 M0 m0 fr a w _ _ hR => h _ a w ⟨rfl, hR.less fun b hb => hb.1⟩
theorem Post.same {w0 : World} {M0 : Nat → Prop} {m0 : Mu} {fr : Nat → Prop} {s : S} {x : Xt} {s' : S} {e : Exit} {a : Act} {w : World} (p : Post w0 M0 m0 nt fr s x s' e a w) : e = xOf x := p.1

theorem codeX_ok (hc : CxOk c) (hr : ∀ f args hp nx q, r.call f args hp nx = .ok q → CallOk c f args hp nx q) (hrnd : rnd = ro.isSome)
    (hcode : ∀ code s x s', r.code rnd code s = .ok (x, s') → inC nt code = true → s.nt = nt → Inv s → CodeOk c ro nt code x s s') :
    ∀ (code : Code) (s : S) (x : Xt) (s' : S), codeX c r rnd code s = .ok (x, s') → inC nt code = true → s.nt = nt → Inv s → CodeOk c ro nt code x s s' := by
  intro code
  induction code with
  | skip =>
    intro s x s' h _ _ hI
    simp only [codeX, O.ok.injEq, Prod.mk.injEq] at h
    obtain ⟨rfl, rfl⟩ := h
    exact ⟨Stat.refl hI, CodeDo.here fun Q a w hq => wpIn_skip hq⟩
  | label l =>
    intro s x s' h _ _ hI
    simp only [codeX, O.ok.injEq, Prod.mk.injEq] at h
    obtain ⟨rfl, rfl⟩ := h
    exact ⟨Stat.refl hI, CodeDo.here fun Q a w hq => wpIn_label hq⟩
  | ret =>
    intro s x s' h _ _ hI
    simp only [codeX, O.ok.injEq, Prod.mk.injEq] at h
    obtain ⟨rfl, rfl⟩ := h
    exact ⟨Stat.refl hI, CodeDo.here fun Q a w hq => wpIn_ret hq⟩
  | exit id =>
    intro s x s' h _ _ hI
    simp only [codeX, O.ok.injEq, Prod.mk.injEq] at h
    obtain ⟨rfl, rfl⟩ := h
    exact ⟨Stat.refl hI, CodeDo.here fun Q a w hq => wpIn_exit hq⟩
  | goto l =>
    intro s x s' h _ _ hI
    simp only [codeX, O.ok.injEq, Prod.mk.injEq] at h
    obtain ⟨rfl, rfl⟩ := h
    exact ⟨Stat.refl hI, CodeDo.here fun Q a w hq => wpIn_goto hq⟩
  | refuse why =>
    intro s x s' h _ _ hI
    simp only [codeX] at h
    cases h
  | seq a b iha ihb =>
    intro s x s' h hin hnt hI
    simp only [inC, Bool.and_eq_true] at hin
    simp only [codeX] at h
    split at h
    · rename_i s1 h1
      have k1 := iha s .normal s1 h1 hin.1 hnt hI
      have k2 := ihb s1 x s' h hin.2 (k1.1.nt.trans hnt) k1.1.inv
      refine ⟨k1.1.trans k2.1, fun w0 M0 m0 fr act w hG hfr hR => wpIn_seq (wpIn_mono (k1.wp w0 M0 m0 fr act w hG (fun b g1 g2 => hfr b g1 (Nat.lt_of_lt_of_le g2 k2.1.nx)) hR) ?_)⟩
      intro e a' w' p
      obtain ⟨rfl, q⟩ := post_chain (W2 := b.wpIn (Fr ro) 0 c.P) (fun hm h => wpIn_mono h hm) k1.1 k2.1 k2.wp hG hfr p
      exact q
    · rename_i x1 s1 hx h1
      simp only [O.ok.injEq, Prod.mk.injEq] at h
      obtain ⟨rfl, rfl⟩ := h
      have k1 := iha s x1 s1 h1 hin.1 hnt hI
      refine ⟨k1.1, fun w0 M0 m0 fr act w hG hfr hR => wpIn_seq (wpIn_mono (k1.wp w0 M0 m0 fr act w hG hfr hR) ?_)⟩
      intro e a' w' p
      have hp := p.1
      subst hp
      cases x1 with
      | normal => exact absurd rfl hx
      | _ => exact p
    · cases h
  | cond o a b iha ihb =>
    intro s x s' h hin hnt hI
    simp only [inC, Bool.and_eq_true] at hin
    simp only [codeX] at h
    split at h
    · rename_i hb
      have k1 := iha s x s' h hin.1 hnt hI
      refine ⟨k1.1, fun w0 M0 m0 fr act w hG hfr hR => ?_⟩
      have hv : act.eval o = .bool true := by
        obtain ⟨m, _, R⟩ := hR
        have := eval_vals R.env o
        exact conc_bool hb this
      exact wpIn_cond_true hv (k1.wp w0 M0 m0 fr act w hG hfr hR)
    · rename_i hb
      have k1 := ihb s x s' h hin.2 hnt hI
      refine ⟨k1.1, fun w0 M0 m0 fr act w hG hfr hR => ?_⟩
      have hv : act.eval o = .bool false := by
        obtain ⟨m, _, R⟩ := hR
        have := eval_vals R.env o
        exact conc_bool hb this
      exact wpIn_cond_false hv (k1.wp w0 M0 m0 fr act w hG hfr hR)
    · cases h
  | block id a iha =>
    intro s x s' h hin hnt hI
    simp only [inC] at hin
    simp only [codeX] at h
    split at h
    · rename_i j s1 h1
      have k1 := iha s (.exit j) s1 h1 hin hnt hI
      cases hj : Nat.beq j id with
      | true =>
        have hji : j = id := Nat.eq_of_beq_eq_true hj
        simp only [hj, cond_true, O.ok.injEq, Prod.mk.injEq] at h
        obtain ⟨rfl, rfl⟩ := h
        refine ⟨k1.1, fun w0 M0 m0 fr act w hG hfr hR => wpIn_block (wpIn_mono (k1.wp w0 M0 m0 fr act w hG hfr hR) ?_)⟩
        rintro e a' w' ⟨rfl, p⟩
        simp only [xOf, Exit.inBlock, hji, if_true]
        exact ⟨rfl, p⟩
      | false =>
        have hji : j ≠ id := Nat.ne_of_beq_eq_false hj
        simp only [hj, cond_false, O.ok.injEq, Prod.mk.injEq] at h
        obtain ⟨rfl, rfl⟩ := h
        refine ⟨k1.1, fun w0 M0 m0 fr act w hG hfr hR => wpIn_block (wpIn_mono (k1.wp w0 M0 m0 fr act w hG hfr hR) ?_)⟩
        rintro e a' w' ⟨rfl, p⟩
        simp only [xOf, Exit.inBlock, if_neg hji]
        exact ⟨rfl, p⟩
    · rename_i x1 s1 hx h1
      simp only [O.ok.injEq, Prod.mk.injEq] at h
      obtain ⟨rfl, rfl⟩ := h
      have k1 := iha s x1 s1 h1 hin hnt hI
      refine ⟨k1.1, fun w0 M0 m0 fr act w hG hfr hR => wpIn_block (wpIn_mono (k1.wp w0 M0 m0 fr act w hG hfr hR) ?_)⟩
      rintro e a' w' ⟨rfl, p⟩
      cases x1 with
      | exit j => exact absurd rfl (hx j)
      | _ => exact ⟨rfl, p⟩
    · cases h
  | scope a iha =>
    intro s x s' h hin hnt hI
    simp only [inC] at hin
    simp only [codeX] at h
    split at h
    · cases h
    · rename_i x1 s1 hx h1
      simp only [O.ok.injEq, Prod.mk.injEq] at h
      obtain ⟨rfl, rfl⟩ := h
      have k1 := iha s x1 s1 h1 hin hnt hI
      refine ⟨k1.1, fun w0 M0 m0 fr act w hG hfr hR => wpIn_scope (wpIn_mono (k1.wp w0 M0 m0 fr act w hG hfr hR) ?_)⟩
      rintro e a' w' ⟨rfl, p⟩
      cases x1 with
      | goto j => exact absurd rfl (hx j)
      | _ => exact ⟨rfl, p⟩
    · cases h
  | region id ops draw =>
    intro s x s' h hin hnt hI
    simp only [inC] at hin
    simp only [codeX] at h
    cases hd : draw with
    | true =>
      simp only [hd, cond_true] at h
      split at h
      · rename_i s1 sks h1
        replace h := bif_yes h
        obtain ⟨hord, h⟩ := h
        simp only [O.ok.injEq, Prod.mk.injEq] at h
        obtain ⟨rfl, rfl⟩ := h
        obtain ⟨k1, k2, k3⟩ := opsD_ok (nt := nt) (ro := ro) hc hr hin h1 hord hI
        refine ⟨k1, fun w0 M0 m0 fr act w hG hfr hR => wpIn_region_any hc.mix (k3 w0 M0 m0 fr act _ _ hG hfr ?_ fun a' w' hR' => ⟨rfl, hR'⟩)⟩
        obtain ⟨m, hm, R⟩ := hR
        exact ⟨m, hm, ⟨R.size, R.env, R.df, R.w.drawn _⟩⟩
      · cases h
    | false =>
      simp only [hd, cond_false] at h
      split at h
      · rename_i s1 h1
        simp only [O.ok.injEq, Prod.mk.injEq] at h
        obtain ⟨rfl, rfl⟩ := h
        obtain ⟨k1, k2⟩ := opsX_ok hc hr hrnd hin ops.toList 0 s s1 h1 (by simp) hI
        refine ⟨k1, fun w0 M0 m0 fr act w hG hfr hR => wpIn_region ?_⟩
        rw [List.range_eq_range']
        have hl : ops.toList.length = ops.size := by simp
        rw [hl] at k2
        exact k2 w0 M0 m0 fr act w _ hG hfr hR fun a' w' hR' => ⟨rfl, hR'⟩
      · cases h
  | loop a iha =>
    intro s x s' h hin hnt hI
    have hin' := hin
    simp only [inC] at hin
    simp only [codeX] at h
    split at h
    · rename_i s1 h1
      have k1 := iha s .normal s1 h1 hin hnt hI
      obtain ⟨st2, m, k2⟩ := hcode _ _ _ _ h hin' (k1.1.nt.trans hnt) k1.1.inv
      refine ⟨k1.1.trans st2, m + 1, fun w0 M0 m0 fr act w hG hfr hR => ?_⟩
      simp only [roundsIn_succ]
      refine wpIn_mono (k1.wp w0 M0 m0 fr act w hG (fun b g1 g2 => hfr b g1 (Nat.lt_of_lt_of_le g2 st2.nx)) hR) ?_
      intro e a' w' p
      obtain ⟨rfl, q⟩ := post_chain (W2 := fun Q => a.roundsIn (Fr ro) 0 c.P Q m) (fun hm h => roundsIn_mono hm h) k1.1 st2 k2 hG hfr p
      exact q
    · rename_i x1 s1 hx h1
      simp only [O.ok.injEq, Prod.mk.injEq] at h
      obtain ⟨rfl, rfl⟩ := h
      have k1 := iha s x1 s1 h1 hin hnt hI
      refine ⟨k1.1, 1, fun w0 M0 m0 fr act w hG hfr hR => ?_⟩
      simp only [roundsIn_succ]
      refine wpIn_mono (k1.wp w0 M0 m0 fr act w hG hfr hR) ?_
      rintro e a' w' ⟨rfl, p⟩
      cases x1 with
      | normal => exact absurd rfl hx
      | _ => exact ⟨rfl, p⟩
    · cases h
  | rangeFunc f ps a b iha ihb =>
    intro s x s' h hin hnt hI
    simp only [codeX] at h
    replace h := bif_no h
    obtain ⟨hb, h⟩ := h
    simp only [Bool.or_eq_false_iff] at hb
    have hro : ro = none := by
      cases ro with
      | none => rfl
      | some l => rw [hb.1] at hrnd; cases hrnd
    subst hro
    have hfn : ∃ g fs cs, evX s.env f = .fn g fs cs := by
      have := hb.2
      cases hf : evX s.env f with
      | fn g fs cs => exact ⟨g, fs, cs, rfl⟩
      | _ => rw [hf] at this; cases this
    obtain ⟨g, fs, cs, hfn⟩ := hfn
    split at h
    · rename_i q hq
      split at h
      · cases h
      · rename_i st pd k0 k env ps' a' b' d hst hl
        have hst' : st ≠ .busy := fun e => by subst e; exact hst rfl
        split at h
        · simp only [O.ok.injEq, Prod.mk.injEq] at h
          obtain ⟨rfl, rfl⟩ := h
          exact rangeF_ok hr hI hnt hfn hq hl hst' (x := .normal) rfl
        · simp only [O.ok.injEq, Prod.mk.injEq] at h
          obtain ⟨rfl, rfl⟩ := h
          exact rangeF_ok hr hI hnt hfn hq hl hst' (x := .ret) rfl
        · simp only [O.ok.injEq, Prod.mk.injEq] at h
          obtain ⟨rfl, rfl⟩ := h
          exact rangeF_ok hr hI hnt hfn hq hl hst' (x := .exit _) rfl
        · cases h
      · cases h
    · cases h
end
end Go.Ex
