/- The abstract machine: regions and code: what is carried out is right. -/
import Derived.Test.YtbeolnccdhjjeaaAmExec3
namespace Go.Am
variable {P : Program} {ω : Nat → Value}

section
variable {R D : Type} {fl : R} {den : R → Option D} (hfl : den fl = none) {rec : Rcr R} (hrec : RcrOk P den rec) {κ : Nat → Option CSumm} {ι : Nat → Bool} (hκ : KOk P κ)
include hfl hrec hκ

theorem opsQ_run {all : List Oper} {k : St → R} {d : D} : ∀ (os : List Oper) (i : Nat) (s : St), all.drop i = os → StOk s → den (opsQ fl P κ ι rec all k os s) = some d →
    ∃ s', StOk s' ∧ Later s s' ∧ s'.size = s.size ∧ s'.rd = s.rd ∧ den (k s') = some d ∧
      ∀ (ω : Nat → Value) (ρ : Option Nat) (Q : Exit → Act → World → Prop) (a : Act) (w : World) (Im : Nat → Prop) (θ : Th), Sim P ω ρ s a w Im θ → After P ω ρ s s' a w Im θ (Q .normal) → wpOpsIn (FR ρ) 0 P all.toArray Q (List.range' i os.length) a w
  | [], i, s, _, hs, h => ⟨s, hs, Later.refl s, rfl, rfl, h, fun ω ρ Q a w Im θ sim hA => hA a w Im θ sim (Ext.refl _) (New.refl rfl)⟩
  | o :: os, i, s, hall, hs, h => by
    simp only [opsQ] at h
    have ho : all[i]? = some o := by
      have := congrArg (·[0]?) hall
      simpa using this
    have hall' : all.drop (i + 1) = os := by
      have := congrArg List.tail hall
      simpa using this
    cases hd : dstOk s o.dst with
    | false => rw [hd] at h; exact (fl_no hfl h).elim
    | true =>
      rw [hd] at h
      simp only [cond_true] at h
      have hdN := dstOk_N hd
      obtain ⟨s1, go, hal, hw, h1⟩ := guard_run hfl hs.size h
      have hs1 := hal.ok hs
      have hd1 : dstN s1.size o.dst := by rw [hal.size]; exact hdN
      cases go with
      | true =>
        simp only [cond_true] at h1
        obtain ⟨s2, hs2, hl2, z2, r2, h2, hwp⟩ := step_run hfl hrec hκ hs1 hd1 h1
        obtain ⟨s3, hs3, hl3, z3, r3, h3, hwp3⟩ := opsQ_run os (i + 1) s2 hall' hs2 h2
        refine ⟨s3, hs3, (hal.later.trans hl2).trans hl3, by rw [z3, z2, hal.size], by rw [r3, r2, hal.rd], h3, fun ω ρ Q a w Im θ sim hA => ?_⟩
        simp only [List.length_cons, List.range'_succ, wpOpsIn, List.getElem?_toArray, ho]
        rw [wanted_eq sim.sf hw]
        simp only [if_true]
        have hA1 : After P ω ρ s1 s3 a w Im θ (Q .normal) := After.trans hal.later (by rw [hal.hp]; exact Ext.refl _) (New.refl rfl) hA
        refine hwp ω ρ _ Q a w Im θ (hal.sim sim) (fun a' w' Im' θ' sim' hE hN => ?_)
        exact hwp3 ω ρ Q a' w' Im' θ' sim' (After.trans hl2 hE hN hA1)
      | false =>
        simp only [cond_false] at h1
        obtain ⟨s3, hs3, hl3, z3, r3, h3, hwp3⟩ := opsQ_run os (i + 1) _ hall' (put_ok hs1 hd1 (.tup [])) h1
        refine ⟨s3, hs3, (hal.later.trans (put_later _ _ _)).trans hl3, by rw [z3, put_sz, hal.size], by rw [r3, put_rd, hal.rd], h3, fun ω ρ Q a w Im θ sim hA => ?_⟩
        simp only [List.length_cons, List.range'_succ, wpOpsIn, List.getElem?_toArray, ho]
        rw [wanted_eq sim.sf hw]
        simp only [Bool.false_eq_true, if_false]
        refine ⟨fun f _ => FR_fn ρ f, ?_⟩
        refine hwp3 ω ρ Q _ w Im θ (put_sim (hal.sim sim) hd1 (.tup rfl (fun i v u hv _ => by simp at hv))) ?_
        exact After.trans (hal.later.trans (put_later _ _ _)) (by rw [put_hp, hal.hp]; exact Ext.refl _) (New.refl (put_defers _ _ _)) hA

omit hrec hκ in
theorem opsR_run {all : List Oper} {k : St → List Foot → R} {d : D} : ∀ (os : List Oper) (i : Nat) (s : St) (acc : List Foot), StOk s → den (opsR fl P κ all k os i s acc) = some d →
    ∃ recs s', Txt P κ all s.size os s.tmp s.hp.get s.nx recs s'.tmp s'.hp.get s'.nx ∧ StOk s' ∧ s'.size = s.size ∧ s'.rd = s.rd ∧ Later s s' ∧ den (k s' (feet i recs acc)) = some d
  | [], i, s, acc, hs, h => ⟨[], s, .nil, hs, rfl, rfl, Later.refl s, h⟩
  | o :: os, i, s, acc, hs, h => by
    simp only [opsR] at h
    cases hd : dstOk s o.dst with
    | false => rw [hd] at h; exact (fl_no hfl h).elim
    | true =>
      rw [hd] at h
      simp only [cond_true] at h
      have hdN := dstOk_N hd
      obtain ⟨s1, go, hal, hw, h1⟩ := guard_run hfl hs.size h
      have hs1 := hal.ok hs
      have hd1 : dstN s1.size o.dst := by rw [hal.size]; exact hdN
      cases go with
      | true =>
        simp only [cond_true] at h1
        obtain ⟨r, ups, nx, rs', hm, h2⟩ := interp_run hfl _ _ h1
        cases hb : Nat.blt nx 1000000 with
        | false => rw [hb] at h2; exact (fl_no hfl h2).elim
        | true =>
          rw [hb] at h2
          simp only [cond_true, List.nil_append] at h2
          have hnx : nx < 1000000 := by rw [Nat.blt_eq] at hb; exact hb
          rw [evT_ev] at hm
          obtain ⟨hle, hkeys⟩ := opM_wf hm
          have hk : ∀ p ∈ ups, p.1 < nx := by
            intro p hp
            rcases hkeys p hp with h3 | h3
            · obtain ⟨c, hc⟩ := mrun_reads _ _ hm p.1 h3
              have := hs1.dom _ c hc; omega
            · exact h3.2
          have hk2 : ∀ p ∈ ups, p.1 < 1000000 := fun p hp => by have := hk p hp; omega
          have ou := upd_ok hs1 hle hnx hk
          have hhp : (s1.upd ups nx).hp.get = updF ups s1.hp.get := upsTr_get _ _ hk2
          obtain ⟨recs, s', ht, hs', g1, g2, g3, g6⟩ := opsR_run os (i + 1) _ _ (put_ok ou hd1 r) h2
          rw [put_sz, put_hp, put_nx, hhp, tmp_put (s := s1.upd ups nx) hd1 ou.size] at ht
          rw [hal.tmp, hal.hp, hal.nx] at hm
          have ht' : Txt P κ all s.size os (updT s.tmp o.dst r) (updF ups s.hp.get) nx recs s'.tmp s'.hp.get s'.nx := by
            rw [← hal.tmp, ← hal.hp, ← hal.size]; exact ht
          refine ⟨_ :: recs, s', .run hdN hw hm ht', hs', by rw [g1, put_sz]; exact hal.size, by rw [g2, put_rd]; exact hal.rd, ((hal.later.trans (upd_later hle hk2)).trans (put_later _ _ _)).trans g3, ?_⟩
          simpa [feet] using g6
      | false =>
        simp only [cond_false] at h1
        obtain ⟨recs, s', ht, hs', g1, g2, g3, g6⟩ := opsR_run os (i + 1) _ _ (put_ok hs1 hd1 (.tup [])) h1
        rw [put_sz, put_hp, put_nx, tmp_put hd1 hs1.size, hal.tmp, hal.hp, hal.nx, hal.size] at ht
        exact ⟨_ :: recs, s', .skip hdN hw ht, hs', by rw [g1, put_sz, hal.size], by rw [g2, put_rd, hal.rd], (hal.later.trans (put_later _ _ _)).trans g3, by simpa [feet] using g6⟩

omit hfl hrec hκ in
theorem cnt_le_n (D : Nat → Bool) : ∀ n, cnt D n ≤ n
  | 0 => Nat.le_refl _
  | n + 1 => by have := cnt_le_n D n; simp only [cnt]; split <;> omega

omit hfl hrec hκ in
theorem drew_same {Im : Nat → Prop} {w : World} : ∀ b, Im b → Im b ∧ ({ w with drawn := w.drawn + 1 } : World).heap[b]? = w.heap[b]? := fun _ hb => ⟨hb, rfl⟩
omit hfl hrec hκ in
theorem Ext.drew {new : Nat → Prop} {h : HpF} {w : World} {Im : Nat → Prop} {θ : Th} : Ext new h w Im θ h { w with drawn := w.drawn + 1 } Im θ where
  thOld _ _ := rfl
  thUp _ _ h := h
  imUp _ h := h
  size := Nat.le_refl _
  keep _ _ _ := rfl
  imNew _ h := .inl h
  ownNew x c _ N h1 h2 := .inl ⟨x, c, N, h1, h2⟩
  os := rfl
  output := rfl
  tape := rfl
omit hfl hrec hκ in
theorem SimF.drew {n : Nat} {T : Nat → SV} {h : HpF} {a : Act} {w : World} {Im : Nat → Prop} {θ : Th} (s : SimF P ω n T h a w Im θ) : SimF P ω n T h a { w with drawn := w.drawn + 1 } Im θ := by
  refine ⟨s.size, fun t ht => (s.tm t ht).mono drew_same (fun _ _ h => h), s.out, s.df.step (Ext.drew (new := fun _ => False)), ?_⟩
  exact ⟨fun x c hx => (s.hp.at_ x c hx).mono drew_same (fun _ _ h => h) rfl (fun _ _ _ => rfl), s.hp.inj, s.hp.own, s.hp.im⟩

omit hfl hrec in
/-- A region, of which the text's order is told. -/
theorem txt_comes (hmix : P.follows .mixedOrders = true) {id : Nat} {ops : Array Oper} {draw : Bool} {s s' : St} {recs : List Rec} {T' : Nat → SV} (hs : StOk s) (hs' : StOk s') (hl : Later s s') (hz : s'.size = s.size) (hrd : s'.rd = s.rd)
    (ht : Txt P κ ops.toList s.size ops.toList s.tmp s.hp.get s.nx recs T' s'.hp.get s'.nx) (hT : ∀ t, s'.tmp t = .junk ∨ s'.tmp t = T' t)
    (hdr : draw = true → staticOk ops.toList (befAll ops.toList []) [] ops.toList 0 = true ∧ footsOk (befAll ops.toList []) (feet 0 recs []) = true) : Comes P (.region id ops draw) s .normal s' := by
  refine ⟨hl, hz, hrd, 0, fun ω ρ Q a w Im θ sim hA => ?_⟩
  have fin : ∀ (a' : Act) (w' : World) (Im' : Nat → Prop) (θ' : Th), SimF P ω s.size T' s'.hp.get a' w' Im' θ' → Fr s'.nx θ' s'.hp.get → a'.defers = a.defers → Ext (fun x => s.nx ≤ x) s.hp.get w Im θ s'.hp.get w' Im' θ' → Q .normal a' w' := by
    intro a' w' Im' θ' hS hF hdf hE
    refine hA a' w' Im' θ' ⟨hs', by rw [hz]; exact hS.weaken hT, hF, ?_⟩ hE (New.refl hdf)
    rw [hrd]
    rcases sim.rd with g | ⟨y, b, N, g1, g2, g3⟩
    · exact .inl g
    · exact .inr ⟨y, b, N, g1, hE.thUp _ _ g2, g3⟩
  show (Code.region id ops draw).wpIn (FR ρ) 0 P Q a w
  cases draw with
  | false =>
    refine wpIn_region ?_
    have hsnd := seq_sound (P := P) hκ (nx0 := s.nx) (ro := ρ) (Q := Q) (ds := a.defers) ht 0 a w Im θ (by simp) rfl sim.sf sim.fr (Nat.le_refl _) (w0 := w) (Im0 := Im) (θ0 := θ) (h0 := s.hp.get) (Ext.refl _) (fun a' w' Im' θ' hdf hS hF hn hE =>
      fin a' w' Im' θ' hS hF hdf hE)
    simpa [List.range_eq_range'] using hsnd
  | true =>
    obtain ⟨hst, hf⟩ := hdr rfl
    refine wpIn_region_any hmix ?_
    have hS := sim.sf.drew
    have hz' : ∀ j, 0 ≤ j → (fun _ : Nat => false) j = false := fun _ _ => rfl
    refine any_sound (P := P) (ω := ω) hκ (all := ops.toList) (nxs := s.nx) (ro := ρ) (ds := a.defers) ht hs.dom (Nat.le_refl _) (static_of hst) hf (Q := Q) (hs := s.hp.get) (ws := w) (Ims := Im) (θs := θ) ?_ ops.size (fun _ => false) (Array.replicate ops.size false) a { w with drawn := w.drawn + 1 } Im θ ?_ (by simp) ?_ (fun _ _ => rfl) (fun i hi => by cases hi) rfl ?_ ?_ ?_
    · intro a' w' Im' θ' hdf hS' hF hn hE'
      exact fin a' w' Im' θ' hS' hF hdf hE'
    · have := cnt_le_n (fun _ => false) ops.toList.length
      simpa using this
    · intro i hi
      simp at hi
      simp [hi]
    · rw [TD_none _ _ _ _ hz', HD_none _ _ _ _ hz']; exact hS
    · intro x hx
      left
      rw [HD_none _ _ _ _ hz'] at hx
      rcases Nat.lt_or_ge x s.nx with h1 | h1
      · exact h1
      · obtain ⟨f1, f2⟩ := sim.fr x h1
        rcases hx with hx | hx
        · exact absurd f1 hx
        · exact absurd f2 hx
    · rw [HD_none _ _ _ _ hz']; exact Ext.drew

theorem region_run (hmix : P.follows .mixedOrders = true) {id : Nat} {ops : Array Oper} {draw : Bool} {s : St} {k : St → R} {d : D} (hs : StOk s) (h : den (regionC fl P κ ι rec ops draw k s) = some d) :
    ∃ s', StOk s' ∧ Comes P (.region id ops draw) s .normal s' ∧ den (k s') = some d := by
  unfold regionC at h
  cases hsp : specRun P κ ops.toList draw s with
  | some s' =>
    simp only [hsp] at h
    obtain ⟨hst, recs, Ta, ht, hups, hs', g1, g2, g3, g4, g5, g6⟩ := specRun_run hs hsp
    have g7 : s'.rd = s.rd := specRun_rd hsp
    refine ⟨s', hs', txt_comes hκ hmix hs hs' (Later.of g4 g3 g2 g5) g1 g7 (by rw [g2, g3]; exact ht) g6 (fun hd => ⟨hst hd, footsOk_nil _ _ (feet_nil recs 0 [] hups (fun f h => by cases h))⟩), h⟩
  | none =>
    simp only [hsp] at h
    unfold regionB at h
    cases draw with
    | false =>
      simp only [cond_false] at h
      obtain ⟨s', hs', hl, hz, hr, h1, hwp⟩ := opsQ_run hfl hrec hκ ops.toList 0 s (by simp) hs h
      refine ⟨s', hs', ⟨hl, hz, hr, 0, fun ω ρ Q a w Im θ sim hA => ?_⟩, h1⟩
      show (Code.region id ops false).wpIn (FR ρ) 0 P Q a w
      refine wpIn_region ?_
      have := hwp ω ρ Q a w Im θ sim hA
      simpa [List.range_eq_range'] using this
    | true =>
      simp only [cond_true] at h
      cases hst : staticOk ops.toList (befAll ops.toList []) [] ops.toList 0 with
      | false => rw [hst] at h; exact (fl_no hfl h).elim
      | true =>
        rw [hst] at h
        simp only [cond_true] at h
        obtain ⟨recs, s', ht, hs', hz, hr, hl, h1⟩ := opsR_run hfl _ _ _ _ hs h
        cases hf : footsOk (befAll ops.toList []) (feet 0 recs []) with
        | false => rw [hf] at h1; exact (fl_no hfl h1).elim
        | true =>
          rw [hf] at h1
          simp only [cond_true] at h1
          exact ⟨s', hs', txt_comes hκ hmix hs hs' hl hz hr ht (fun t => .inr rfl) (fun _ => ⟨hst, hf⟩), h1⟩
end
end Go.Am
