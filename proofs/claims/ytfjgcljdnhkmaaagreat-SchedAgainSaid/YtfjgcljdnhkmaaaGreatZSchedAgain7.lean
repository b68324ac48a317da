/- A part of proofs about one program. -/
import Derived.ChangeArms
import Derived.Deep.Slices
import Derived.OpenShut
import Derived.Recover
import Derived.Scope
import Derived.Test.YtfjgcljdnhkmaaaGreatProg
import Derived.WalkKit
import Derived.WideShapes
import Derived.Test.YtfjgcljdnhkmaaaGreatZSchedAgainBase
import Derived.Test.YtfjgcljdnhkmaaaGreatZSchedAgainOps
import Derived.Test.YtfjgcljdnhkmaaaGreatZSchedAgainOpsB
import Derived.Test.YtfjgcljdnhkmaaaGreatZSchedAgainOpC
import Derived.Test.YtfjgcljdnhkmaaaGreatZSchedAgainFrame
import Derived.Test.YtfjgcljdnhkmaaaGreatZSchedAgainReg
import Derived.Test.YtfjgcljdnhkmaaaGreatZSchedAgainRegB
import Derived.Test.YtfjgcljdnhkmaaaGreatZSchedAgainRegL
import Derived.Test.YtfjgcljdnhkmaaaGreatZSchedAgainRegC
import Derived.Test.YtfjgcljdnhkmaaaGreatZSchedAgainExec
import Derived.Test.YtfjgcljdnhkmaaaGreatZSchedAgainSound
import Derived.Test.YtfjgcljdnhkmaaaGreatZSchedAgainSoundB
import Derived.Test.YtfjgcljdnhkmaaaGreatZSchedAgainLib
import Derived.Test.YtfjgcljdnhkmaaaGreatZSchedAgainHp
import Derived.Test.YtfjgcljdnhkmaaaGreatZSchedAgainRow
import Derived.Test.YtfjgcljdnhkmaaaGreatZSchedAgainBig
import Derived.Test.YtfjgcljdnhkmaaaGreatZSchedAgainStC
import Derived.Test.YtfjgcljdnhkmaaaGreatZSchedAgainMod
import Derived.Test.YtfjgcljdnhkmaaaGreatZSchedAgainOpen
import Derived.Test.YtfjgcljdnhkmaaaGreatZSchedAgainArgs
import Derived.Test.YtfjgcljdnhkmaaaGreatZSchedAgainDefer
import Derived.Test.YtfjgcljdnhkmaaaGreatZSchedAgainDefer2
import Derived.Test.YtfjgcljdnhkmaaaGreatZSchedAgainAgg
import Derived.Test.YtfjgcljdnhkmaaaGreatZSchedAgain0
import Derived.Test.YtfjgcljdnhkmaaaGreatZSchedAgain1
import Derived.Test.YtfjgcljdnhkmaaaGreatZSchedAgain2
import Derived.Test.YtfjgcljdnhkmaaaGreatZSchedAgain3
import Derived.Test.YtfjgcljdnhkmaaaGreatZSchedAgain4
import Derived.Test.YtfjgcljdnhkmaaaGreatZSchedAgain5
import Derived.Test.YtfjgcljdnhkmaaaGreatZSchedAgain6
set_option linter.unusedVariables false
namespace Go.AF
theorem qH {P : Program} {w : World} {r : Reach} {base : Nat} {t e : TypeId} {A : Option Addr} {n c : Nat} (hu : P.underlying t = some (.slice e)) (h : Value.okWide P w r base t (.slice A n c)) : ∀ x, A = some x → x.spot = none := by
 intro x hx
 subst hx
 simp only [Value.okWide, hu, Cell.okWide, Cell.ok, World.has] at h
 exact h.2.2.2.1
def IQ (M : Mem) (A : Option Addr) (n c : Nat) (ks : List IntKind) : Prop := mV M A n c ks ∧ ∀ x, A = some x → x.spot = none
theorem Xr (l : List (Nat → Int)) : (kE [.u64]).cells l = AV.cells (l.map (· 0)) := by
 induction l with
 | nil => rfl
 | cons g l ih => rw [gp.bY, List.map_cons, gp.bY, ih]; rfl
theorem IQ.rs {α : Type} {E : gp α} {M : Mem} {A : Option Addr} {n c : Nat} {ks : List IntKind} (h : IQ M A n c ks) (f : (Nat → Int) → α) (hc : ∀ l, (kE ks).cells l = E.cells (l.map f)) : ∃ l : List (Nat → Int), (l.map f).length = n ∧ n ≤ c ∧ n ≤ 9223372036854775807 ∧ RS E M A c (l.map f) ∧ ∀ g ∈ l, ∀ j k, ks[j]? = some k → (Lit.int k (g j)).wf = true := by
 obtain ⟨⟨l, rfl, h1, h2, h3, h4⟩, hs⟩ := h
 refine ⟨l, by simp, h1, Nat.le_trans h2 (by decide), ⟨?_, by simpa using h1⟩, h4⟩
 rcases Nat.eq_zero_or_pos l.length with h0 | h0
 ·have : l = [] := List.eq_nil_of_length_eq_zero h0
  subst this
  match A, hs with
  | none, _ => rfl
  | some ⟨b, o, sp⟩, hs =>
   have := hs _ rfl
   simp only at this
   subst this
   intro i hi
   simp [gp.cells] at hi
 ·rw [← hc]
  exact h3 h0
theorem IQ.u64 {M : Mem} {A : Option Addr} {n c : Nat} (h : IQ M A n c [.u64]) : ∃ l : List Int, l.length = n ∧ n ≤ 9223372036854775807 ∧ n ≤ c ∧ RS AV M A c l ∧ ∀ v ∈ l, 0 ≤ v ∧ v < 18446744073709551616 := by
 obtain ⟨l, h1, h2, h3, h4, h5⟩ := h.rs (E := AV) (· 0) Xr
 refine ⟨_, h1, h3, h2, h4, fun v hv => ?_⟩
 obtain ⟨g, hg, rfl⟩ := List.mem_map.1 hv
 have := h5 g hg 0 .u64 rfl
 simp [Lit.wf, IntKind.has, IntKind.min, IntKind.max, IntKind.signed, IntKind.bits] at this
 omega
end Go.AF
namespace Go.Proofs
open Go.AF
set_option maxRecDepth 100000
set_option maxHeartbeats 1000000
attribute [local irreducible] aK cJ fJ bO aD fz aG aO be aS bJ aV
attribute [local irreducible] IT Kc
section
variable {R : Mem} {L L' : List HP} {M : Mem} {K : Value → Mem → Prop} {Kp : List PanicEntry → Mem → Prop} {pa : PA} {p : b6}
end
def mw : gp (Int × Int × Int × (Option Addr × Nat × Nat)) := ⟨4, fun t => [.int .i64 t.1, .int .i64 t.2.1, .int .i64 t.2.2.1, .slice t.2.2.2.1 t.2.2.2.2.1 t.2.2.2.2.2], fun _ => rfl, fun w v hv => by
 simp only [List.mem_cons, List.not_mem_nil, or_false] at hv; obtain rfl | rfl | rfl | rfl := hv <;> rfl⟩
def TC (R : Mem) (r : Int × Int × Int × (Option Addr × Nat × Nat)) (e : Ev) : Prop := r.1 = e.kind ∧ r.2.1 = e.m ∧ r.2.2.1 = e.g ∧ r.2.2.2.2.1 = e.ready.length ∧ RS bl R r.2.2.2.1 r.2.2.2.2.2 e.ready ∧ e.ready.length ≤ 1000000
theorem TC.le (R R' : Mem) (r : Int × Int × Int × (Option Addr × Nat × Nat)) (e : Ev) (hle : R.le R') (h : TC R r e) : TC R' r e := ⟨h.1, h.2.1, h.2.2.1, h.2.2.2.1, h.2.2.2.2.1.le hle, h.2.2.2.2.2⟩
theorem el_ev : bg Tryz.prog 93 47 4 48 [.int .i64 0, .int .i64 0, .int .i64 0, .slice none 0 0] := bg.mk' (zv := .agg #[.int .i64 0, .int .i64 0, .int .i64 0, .slice none 0 0]) (by kernel_rfl) (by kernel_rfl) rfl (by omega)
theorem vv {x : Sc} {m g : Int} {kp : Bool} {r : List Int} : (x.ju m g kp r).2.ready = r := by unfold Sc.ju; split <;> rfl
theorem Gb {p : b6} {x y : Sc} {e : Ev} (h : x.step p = some (y, .ev e)) : e.ready.length ≤ 1000000 := by
 unfold Sc.step at h
 split at h
 ·split at h
  ·cases h; simp
  ·split at h
   ·cases h
   ·rename_i d' m hd
    cases hz : Sc.act p { x with d := d' } m with
    | none => rw [hz] at h; cases h
    | some z =>
     obtain ⟨z, o⟩ := z
     rw [hz] at h
     cases o with
     | cO l => cases h
     | ev e' =>
      cases h
      unfold Sc.act at hz
      split at hz
      ·split at hz
       ·rename_i ht
        cases hz
        have := ht.2.2
        show (Sc.tick { x with d := d' }).2.ready.length ≤ _
        unfold Sc.tick
        dsimp only at this ⊢
        omega
       ·cases hz
      ·split at hz
       ·cases hz
        unfold Sc.hold
        split <;> simp
       ·split at hz
        ·split at hz
         ·simp only [Option.some.injEq] at hz
          unfold Sc.find at hz
          dsimp only at hz
          split at hz
          ·cases hz; simp
          ·split at hz
           ·split at hz
            ·cases hz
            ·split at hz
             ·cases hz; unfold Sc.bL; split <;> simp
             ·cases hz; unfold Sc.bL; split <;> simp
           ·cases hz; unfold Sc.bL; split <;> simp
         ·cases hz
        ·unfold Sc.run at hz
         split at hz
         ·split at hz
          ·split at hz
           ·cases hz
           ·cases hz
           ·unfold gk at hz
            split at hz
            ·rename_i hr
             cases hz
             rw [vv]; omega
            ·cases hz
           ·unfold gk at hz
            split at hz
            ·rename_i hr
             cases hz
             rw [vv]; omega
            ·cases hz
          ·cases hz
         ·cases hz
 ·cases h
section
variable {R : Mem} {L L' : List HP} {M : Mem} {K : Value → Mem → Prop} {Kp : List PanicEntry → Mem → Prop} {pa : PA} {p : b6}
theorem PZ {c : Gp} (h : Hp R L M) (k : ∀ M', Hp R L M' → K (Sx c) M') : aa Tryz.prog 30 #[Sx c] M K Kp := by
 refine tF ?_
 repeat (first | (refine aq h ?_; clear h; intro kb M h) | (refine av h ?_; clear h; intro M h) | refine St.to h ?_ | (apply Exists.intro; (repeat apply Exists.intro); refine And.intro rfl ?_) | (refine And.intro ?_ ?_; first | exact rfl | ((repeat (refine ay (aA h) ?_)); exact ae) | omega) | refine ai ?_ | refine aj ?_)
 exact k _ (h.sub bz)
theorem Gc {b wb db : Nat} {x : Sc} (h : Hp R L M) [q : lE b L pa p wb db x L'] (ht : x.d.taken.length ≤ 100000000) (k : ∀ A c M', Hp R (lD A c x.d.taken :: aB (dD pa p wb db) b x :: L') M' → K (.slice A x.d.taken.length c) M') :
  aa Tryz.prog 32 #[.pointer (some ⟨db, 0, none⟩)] M K Kp := by
 have h' := ei h (b := b)
 clear h
 obtain ⟨a, hla, h⟩ := h'
 refine DV (LQ := .nilFunc) (b := db) h ht ?_
 clear h; intro A c M h
 have h2 : Hp R (fR (dM b wb db a x) x.gl :: aB (bG pa p) wb x.w :: aB (cu .nilFunc) db x.d :: dU a x (lD A c x.d.taken :: L')) M := h.sub bz
 exact k A c M ((gh hla h2).sub bz)
theorem CU {b wb db : Nat} {x : Sc} (h : Hp R L M) [q : lE b L pa p wb db x L'] (ho : x.w.out.length ≤ 1000000) (k : ∀ A c M', Hp R (uB A c x.w.out :: aB (dD pa p wb db) b x :: L') M' → K (.slice A x.w.out.length c) M') :
  aa Tryz.prog 22 #[.pointer (some ⟨wb, 0, none⟩)] M K Kp := by
 have h' := ei h (b := b)
 clear h
 obtain ⟨a, hla, h⟩ := h'
 refine Lu (b := wb) h (by omega) ?_
 clear h; intro A c M h
 have h2 : Hp R (fR (dM b wb db a x) x.gl :: aB (bG pa p) wb x.w :: aB (cu .nilFunc) db x.d :: dU a x (uB A c x.w.out :: L')) M := h.sub bz
 exact k A c M ((gh hla h2).sub bz)
theorem By {b wb db : Nat} {x y : Sc} {o : lF} (h : Hp R L M) [q : lE b L pa p wb db x L'] (hp : kF R pa p) (hd : x.d.k.Ok) (he : x.step p = some (y, o))
  (k : ∀ R' (n1 n2 n3 : Int) A (q1 q2 : Nat) (n4 : Int) M', R.le R' → Hp R' (aB (dD pa p wb db) b y :: L') M' → K (.tuple #[.agg #[.int .i64 n1, .int .i64 n2, .int .i64 n3, .slice A q1 q2], .int .i64 n4]) M') :
  aa Tryz.prog 18 #[.pointer (some ⟨b, 0, none⟩)] M K Kp := by
 refine tS h hp hd he ?_
 cases o with
 | ev e => exact fun R4 A5 c5 M9 h1 h2 h3 h => k R4 _ _ _ _ _ _ _ M9 h1 h
 | cO l => exact fun e vs M9 hg hk h => k R _ _ _ _ _ _ _ M9 (Mem.le_refl _) h
theorem Bz {c0 c1 c2 c3 : Int} {B : Option Addr} {m cb : Nat} (ha : tQ M pa p) (hB : IQ M B m cb [.u64]) (k : ∀ M', nI [] M M' → K (.bool true) M') :
  aa Tryz.prog 8 #[D2 pa p, .agg #[.int .i64 c0, .int .i64 c1, .int .i64 c2, .int .i64 c3], .slice B m cb] M K Kp := by
 refine lB ?_
 have k' : ∀ (R : Mem) (L : List HP) M', M.le R → Hp R L M' → K (.bool true) M' := fun R L M' hle h => k M' (oL.TZ (fun b o hb => h.le b o (hle b o hb)) [])
 clear k
 obtain ⟨ou, n1, n2, n3, hr, hn⟩ := hB.u64
 subst n1
 have h := Hp.start M
 have cok := AD ⟨c0, c1, c2, c3⟩
 refine aq h ?_
 clear h
 intro k1 M1 h
 refine aq h ?_
 clear h
 intro k3 M2 h
 refine F8 h ?_
 clear h; intro R1 M3 l1 h
 have e150 : Int.toNat (if (150 : Int) < ((ou.length : Nat) : Int) then 150 else ((ou.length : Nat) : Int)) - 0 = min 150 ou.length := by split <;> omega
 refine mU (aj ⟨by omega, by omega, by split <;> omega, by split <;> omega, by omega, by split <;> omega, ?_⟩)
 simp only [e150, Int.toNat_natCast]
 refine aH h (aH h (aH h (aH h (aQ h (aQ h (aH h (aQ h ⟨trivial, ?_⟩)))))))
 refine IN (c := ⟨c0, c1, c2, c3⟩) h ?_
 clear h; intro M4 h
 refine ⟨_, _, _, _, rfl, gC h rfl, trivial, ?_⟩
 have Xp := RS.le (RS.cut hr 150) l1
 refine IP (p := p) (pa := pa) (c := cj ⟨c0, c1, c2, c3⟩) (l := ou.take 150) h (ha.le l1) (by omega) (by omega) Xp (by rw [List.length_take]) (by rw [List.length_take]; omega) ?_
 clear h; intro R2 a D3 b wb db M5 l2 hp hs h
 refine ⟨_, _, rfl, _, rfl, gC h rfl, ?_⟩
 refine aq h ?_
 clear h
 intro jA M6 h
 refine y4 h rfl rfl rfl ?_
 clear h; intro M7 h
 refine ⟨gC h rfl, ?_⟩
 have hok := CT p
 have hfn : (eS p).funcs.length ≤ 1000000 := by have := rh p; simp [eS]; omega
 have X6 : SV (eS p) 0 (qG p (cj ⟨c0, c1, c2, c3⟩) (ou.take 150)) := SV.new hok (by omega) (by omega) (by omega) rfl ⟨by rw [List.length_take]; omega, by simp, fun v hv => hn v (List.mem_of_mem_take hv)⟩
 have hio : (qG p (cj ⟨c0, c1, c2, c3⟩) (ou.take 150)).d.AN := ⟨trivial, fun v hv => by cases hv⟩
 have hc0 : (qG p (cj ⟨c0, c1, c2, c3⟩) (ou.take 150)).c = cj ⟨c0, c1, c2, c3⟩ := rfl
 have J6 : ∀ F, Sc.new (eS p) (cj ⟨c0, c1, c2, c3⟩) ⟨.tape F 0, []⟩ = (qG p (cj ⟨c0, c1, c2, c3⟩) (ou.take 150)).bK F := fun F => rfl
 generalize qG p (cj ⟨c0, c1, c2, c3⟩) (ou.take 150) = x0 at h X6 hs hio hc0 J6
 generalize eS p = p' at h X6 hp hok hs hfn J6
 generalize cj ⟨c0, c1, c2, c3⟩ = c at cok hc0 J6
 have h0 : Hp R2 (aB (dD D3 p' wb db) b x0 :: pt jA (rsL a p' x0) 88 :: []) M7 := h.sub bz
 clear h
 have wS : M.le R2 := Mem.le_trans l1 l2
 have wp := hs.w.prg
 have wc := hs.w.dI
 generalize hLk : pt jA (rsL a p' x0) 88 = LK at h0
 refine ⟨fun vs M' => ∃ (A : Option Addr) (ca : Nat) (rs : List (Int × Int × Int × (Option Addr × Nat × Nat))) (es : List Ev) (R' : Mem) (xk y : Sc), vs = [.slice A es.length ca] ∧ es.length ≤ 150 ∧ R2.le R' ∧ AP TC R' rs es ∧ D1 p' x0 es xk ∧ SV p' es.length xk ∧ SV p' (es.length + 1) y ∧
  ((∃ o, xk.step p' = some (y, o)) ∨ (y = xk ∧ xk.status = 0)) ∧ Hp R' (bD mw 47 A ca rs :: aB (dD D3 p' wb db) b y :: LK :: []) M', ⟨fun dd vs M' => ∃ (j : Nat) (x : Sc) (A : Option Addr) (ca : Nat) (rs : List (Int × Int × Int × (Option Addr × Nat × Nat))) (es : List Ev) (R' : Mem), vs = [.slice A j ca, .int .i64 (j : Int)] ∧ es.length = j ∧ dd = 150 - j ∧ j ≤ 150 ∧ R2.le R' ∧ AP TC R' rs es ∧ D1 p' x0 es x ∧ SV p' j x ∧ (j = 150 → x.status = 0) ∧
   Hp R' (bD mw 47 A ca rs :: aB (dD D3 p' wb db) b x :: LK :: []) M', ⟨_, 0, x0, none, 0, [], [], R2, rfl, rfl, rfl, by omega, Mem.le_refl _, AP.nil _ _, rfl, X6, by omega, h0.bX mw _⟩, ?_⟩, ?_⟩
 ·clear h0
  rintro dd _ A1 n1 c1' nn M8 ⟨j, x, A, ca, rs, es, R3, he, hel, hd, hj, wW, kN, hrun, hv, hst0, h⟩
  simp only [List.cons.injEq, Value.int.injEq, Value.slice.injEq, and_true, true_and] at he
  obtain ⟨⟨rfl, rfl, rfl⟩, rfl⟩ := he
  subst hel
  refine aP.2 ⟨fun hlt => ?_, fun hge => ⟨A1, c1', rs, es, R3, x, x, rfl, hj, wW, kN, hrun, hv, hv.mono (by omega), .inr ⟨rfl, hst0 (by omega)⟩, h⟩⟩
  obtain ⟨y, o, hst, GJ⟩ := hv.step hok (by omega)
  refine tS h (hp.le wW) hv.k hst ?_
  clear h
  cases o with
  | ev e =>
   intro R4 A5 c5 M9 h1 h2 h3 h
   refine ⟨_, _, _, _, _, _, _, rfl, ?_⟩
   refine aq h ?_
   clear h
   intro AM M h
   refine jS h ?_
   clear h; intro M h
   refine aj ?_
   have yf := GJ.w.n2
   have SC := kN.le TC.le h1
   refine iW (b := b) h (by omega) (ck ?_)
   refine cK.2 ⟨fun _ => ⟨A1, c1', rs, es, R4, x, y, rfl, hj, Mem.le_trans wW h1, SC, hrun, hv, GJ, .inl ⟨_, hst⟩, h.sub bz⟩, fun hs0 => ?_⟩
   refine oK h ?_
   refine aq h ?_
   clear h
   intro zk M h
   refine h.dx (A := A1) el_ev [(e.kind, e.m, e.g, (A5, e.ready.length, c5))] rfl kN.1.symm rfl (by simp [kN.1]; omega) ?_
   clear h; intro A6 c6 M h
   refine aT ⟨150 - (es.length + 1), by omega, es.length + 1, y, A6, c6, _, es ++ [e], R4, by rw [aU (by omega)], by simp, rfl, by omega, Mem.le_trans wW h1, SC.snoc ⟨rfl, rfl, rfl, rfl, h2, Gb hst⟩, hrun.snoc hst, GJ, fun _ => hs0, h.sub bz⟩
  | cO l =>
   intro e vs M9 hg hk h
   refine ⟨_, _, _, _, _, _, _, rfl, ?_⟩
   refine aq h ?_
   clear h
   intro AM M h
   refine jS h ?_
   clear h; intro M h
   have he := hg.shape.1
   exact cK.2 ⟨fun _ => ⟨A1, c1', rs, es, R3, x, y, rfl, hj, wW, kN, hrun, hv, GJ, .inl ⟨_, hst⟩, h.sub bz⟩, fun h0 => by omega⟩
 clear h0
 rintro nn A7 n7 c7 M8 ⟨A, ca, rs, es, R3, xk, y, he, hel, wW, kN, hrun, hvk, X7, hend, h⟩
 simp only [List.cons.injEq, Value.slice.injEq, and_true] at he
 obtain ⟨rfl, rfl, rfl⟩ := he
 obtain ⟨Wy, iok, PU⟩ := hrun.ok_ hio X6.k
 have hyio : xk.d.taken <+: y.d.taken ∧ y.d.AN ∧ ∃ o, Sc.step p' (xk.bK y.d.taken) = some (y.bK y.d.taken, o) := by
  rcases hend with ⟨o, ho⟩ | ⟨rfl, hs0⟩
  ·obtain ⟨s1, s2, s3⟩ := IL (F := y.d.taken) iok PU ho
   exact ⟨s1, s2, o, s3 (List.prefix_refl _) fun _ _ => rfl⟩
  ·refine ⟨List.prefix_refl _, iok, _, step_end (N := es.length) (hvk.bK (List.prefix_refl _) ?_ iok.2) hok (by omega) rfl hs0⟩
   have := hvk.tk; omega
 obtain ⟨Xs, yio, o2, hst2⟩ := hyio
 have hFl : y.d.taken.length ≤ 1000000000 := by have := X7.tk; omega
 have hvy2 := X7.bK (List.prefix_refl _) hFl yio.2
 have hvk2 := hvk.bK Xs hFl yio.2
 have hleA := Mem.le_trans wS wW
 rw [← hLk] at h
 refine aQ h (aQ h (aH h (aQ h (aH h (aH h (aH h (aH h ?_)))))))
 refine J4 h (wp.le wW) (wc.le wW) hok hfn ?_
 clear h; intro R4 pa2 M l4 WI xS h
 refine ⟨_, _, _, _, _, _, _, _, _, _, rfl, ay (aA h) (ay (aA h) (ay (aA h) (ay (aA h) ae))), ?_⟩
 refine PZ (c := x0.c) h ?_
 clear h; intro M h
 refine ⟨_, _, _, _, rfl, ay (aA h) (ay (aA h) (ay (aA h) (ay (aA h) ae))), ?_⟩
 refine Gc (b := b) (wb := wb) (x := y) (pa := D3) (p := p') h (by have := X7.tk; omega) ?_
 clear h; intro At ct M h
 refine aT ⟨ay (aA h) (ay (aA h) (ay (aA h) (ay (aA h) ae))), ?_⟩
 refine FW (l := y.d.taken) h (Src.row (A := At)) rfl hFl ?_
 clear h; intro db2 M h
 refine g8 ⟨ay (aA h) (ay (aA h) (ay (aA h) (ay (aA h) ae))), ?_⟩
 refine wT (p := p') (pa := pa2) (c := x0.c) (db := db2) (d := ⟨.tape y.d.taken 0, []⟩) h xS (by have := hok.ch; omega) (by have := hok.lk; omega) (by rw [hc0]; omega) (by rw [hc0]; omega) ?_
 clear h; intro b2 wb2 M h
 rw [hc0, J6] at h
 refine g8 ⟨ay (aA h) (ay (aA h) (ay (aA h) (ay (aA h) ae))), ?_⟩
 have SC := kN.le TC.le l4
 have h0 : Hp R4 (aB (dD pa2 p' wb2 db2) b2 (x0.bK y.d.taken) :: bD mw 47 A7 c7 rs :: aB (dD D3 p' wb db) b y :: []) M := h.sub bz
 clear h
 have hleB := Mem.le_trans hleA l4
 have hsv2 := X6.bK ((Wy.trans Xs)) hFl yio.2
 refine ⟨fun dd vs M' => ∃ (i : Nat) (xi : Sc) (R' : Mem), vs = [.int .i64 (i : Int)] ∧ dd = es.length - i ∧ i ≤ es.length ∧ R4.le R' ∧ D1 p' xi (es.drop i) xk ∧ xi.d.AN ∧ xi.d.k.Ok ∧ SV p' i (xi.bK y.d.taken) ∧
  Hp R' (aB (dD pa2 p' wb2 db2) b2 (xi.bK y.d.taken) :: bD mw 47 A7 c7 rs :: aB (dD D3 p' wb db) b y :: []) M', ⟨_, 0, x0, R4, rfl, rfl, by omega, Mem.le_refl _, hrun, hio, X6.k, hsv2, h0⟩, ?_⟩
 clear h0
 rintro dd _ nn M ⟨i, xi, R5, he, hd, hi, l5, hri, xio, xok, W7, h⟩
 simp only [List.cons.injEq, Value.int.injEq, and_true, true_and] at he
 subst he
 have hrs5 := SC.le TC.le l5
 refine aP.2 ⟨fun hlt => ?_, fun hge => ?_⟩
 ·obtain ⟨e, hee⟩ := aR (l := es) (i := i) (by omega)
  obtain ⟨r, hrr, v1, v2, v3, v4, v5, v6⟩ := hrs5.at hee
  obtain ⟨bq, hbq⟩ := h.bx (A := A7) (l := rs) (by rw [kN.1]; omega) (by decide)
  subst hbq
  have hdrop : es.drop i = e :: es.drop (i + 1) := by
   obtain ⟨hl, hg⟩ := List.getElem?_eq_some_iff.1 hee
   rw [List.drop_eq_getElem_cons hl, hg]
  rw [hdrop] at hri
  obtain ⟨z, hz1, hz2⟩ := hri
  obtain ⟨s1, s2, s3⟩ := IL (F := y.d.taken) xio xok hz1
  have zok := vn xok hz1
  obtain ⟨q1, _, _⟩ := hz2.ok_ s2 zok
  have hst := s3 (q1.trans Xs) fun l hl => by cases hl
  obtain ⟨y', o', hst', hvz⟩ := W7.step hok (by omega)
  rw [hst] at hst'
  cases hst'
  refine ⟨by omega, by omega, br ?_⟩
  refine aZ (Src.at (h.src (A := some ⟨bq, 0, none⟩)) h (i := i) (j := 0) hrr rfl (by simp [mw])) ?_
  refine aZ (Src.at (h.src (A := some ⟨bq, 0, none⟩)) h (i := i) (j := 1) hrr rfl rfl) ?_
  refine aZ (Src.at (h.src (A := some ⟨bq, 0, none⟩)) h (i := i) (j := 2) hrr rfl rfl) ?_
  refine y3 (Src.at (h.src (A := some ⟨bq, 0, none⟩)) h (i := i) (j := 3) hrr rfl rfl) ?_
  rw [v1, v2, v3, v4]
  refine aq h ?_
  clear h
  intro zH M h
  repeat (refine av h ?_; clear h; intro M h)
  refine tS h (WI.le l5) W7.k hst ?_
  clear h
  intro R6 A6 c6 M9 h1 h2 h3 h
  refine ⟨_, _, _, _, _, _, _, rfl, ?_⟩
  refine aq h ?_
  clear h
  intro uO M h
  refine jS h ?_
  clear h; intro M h
  refine aj (aH h (aH h (cK.2 ⟨fun h => absurd rfl h, fun _ => ?_⟩)))
  refine aH h (aH h (cK.2 ⟨fun h => absurd rfl h, fun _ => ?_⟩))
  refine aH h (aH h (cK.2 ⟨fun h => absurd rfl h, fun _ => ?_⟩))
  refine aQ h (aQ h ?_)
  refine zJ (l := e.ready) h h2.src (v5.le h1).src rfl rfl (by omega) ?_
  clear h; intro M h
  refine ck (cK.2 ⟨fun h => absurd rfl h, fun _ => ?_⟩)
  exact ⟨es.length - (i + 1), by omega, i + 1, z, R6, by rw [aU (by omega)], rfl, by omega, Mem.le_trans l5 h1, hz2, s2, zok, hvz, h.sub bz⟩
 ·have hil : i = es.length := by omega
  subst hil
  rw [List.drop_of_length_le (Nat.le_refl _)] at hri
  have YN : xi = xk := hri
  subst YN
  refine By h (WI.le l5) hvk2.k hst2 ?_
  clear h
  intro R6 m1 m2 m3 A8 q1 q2 m4 M l6 h
  refine ⟨_, _, _, _, _, _, _, rfl, ?_⟩
  have W4 := X7.PE
  have yf := X7.w.n2
  have hou := X7.w.out
  refine oz (b := b) h (by omega) ?_
  clear h; intro A9 c9 M h
  refine aT ?_
  refine oz (b := b2) h (by show y.gl.length ≤ _; omega) ?_
  clear h; intro BY c10 M h
  refine aT ?_
  refine zJ (l := y.gl) h (Src.row (A := A9)) (Src.row (A := BY)) rfl rfl (by omega) ?_
  clear h; intro M h
  refine ck (aY.2 ⟨fun _ => ?_, fun h => absurd rfl h⟩)
  refine qB (b := b) h (ck ?_)
  refine qB (b := b2) (x := y.bK y.d.taken) h (ck (aY.2 ⟨fun _ => ?_, fun h => absurd rfl h⟩))
  refine iW (b := b) h (by omega) (ck ?_)
  refine iW (b := b2) (x := y.bK y.d.taken) h (by show y.w.gs.length ≤ _; omega) (ck (aY.2 ⟨fun _ => ?_, fun h => absurd rfl h⟩))
  refine qA (b := b) h (g8 ?_)
  refine CU (b := b) (x := y) h (by omega) ?_
  clear h; intro Jr c11 M h
  refine aT ?_
  refine qA (b := b2) h (g8 ?_)
  refine CU (b := b2) (x := y.bK y.d.taken) h (by show y.w.out.length ≤ _; omega) ?_
  clear h; intro sE c12 M h
  refine aT (aY.2 ⟨fun _ => ?_, fun h => absurd rfl h⟩)
  refine Ga (b := b2) h hvy2 ?_
  clear h; intro R7 M l7 h
  exact mU (k' R7 _ M (Mem.le_trans hleB (Mem.le_trans l5 (Mem.le_trans l6 l7))) h)
end
end Go.Proofs
