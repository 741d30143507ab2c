/- Scripts: words joined: the library's Join, known. -/
import Derived.Shelf.Strings.OnBuilder
import Derived.Test.YtpelignoebgkbaaGreatDoorPart8
import Derived.Test.YtpelignoebgkbaaGreatDoorMachine9
import Derived.Lib.ItoaLen
import Derived.Test.YtpelignoebgkbaaGreatDoorPart7
set_option linter.unusedVariables false
set_option linter.unusedSimpArgs false
namespace Go.Proofs.YtpelignoebgkbaaGreatDoor
open Go.Am
set_option maxRecDepth 100000
def Tryz.lays156_ren : Go.Shelf.Ren := ⟨fun | 156 => 30 | 165 => 47 | 166 => 48 | 169 => 49 | 240 => 76 | 241 => 77 | 276 => 94 | 277 => 95 | n => n, fun | 31 => 57 | 9 => 9 | 3 => 3 | 4 => 4 | 0 => 0 | 20 => 20 | 72 => 93 | 76 => 96 | 70 => 91 | 37 => 89 | 75 => 95 | 127 => 112 | 164 => 127 | 5 => 5 | 80 => 98 | n => n, fun | n => n⟩
theorem Tryz.lays156 : Go.Proofs.Lays.n156 Tryz.prog Tryz.lays156_ren := {
 mixed := by kernel_rfl
 f156 := Tryz.func30.trans (congrArg some (by kernel_rfl))
 f165 := Tryz.func47.trans (congrArg some (by kernel_rfl))
 f166 := Tryz.func48.trans (congrArg some (by kernel_rfl))
 f169 := Tryz.func49.trans (congrArg some (by kernel_rfl))
 f240 := Tryz.func76.trans (congrArg some (by kernel_rfl))
 f241 := Tryz.func77.trans (congrArg some (by kernel_rfl))
 f276 := Tryz.func94.trans (congrArg some (by kernel_rfl))
 f277 := Tryz.func95.trans (congrArg some (by kernel_rfl))
 t0 := Tryz.underlying0
 a0 := Tryz.isAgg0
 z0 := Tryz.sizeOf0
 v0 := Tryz.zeroValue0
 t3 := Tryz.underlying3
 a3 := Tryz.isAgg3
 z3 := Tryz.sizeOf3
 v3 := Tryz.zeroValue3
 t4 := Tryz.underlying4
 a4 := Tryz.isAgg4
 z4 := Tryz.sizeOf4
 v4 := Tryz.zeroValue4
 t9 := Tryz.underlying9
 a9 := Tryz.isAgg9
 z9 := Tryz.sizeOf9
 v9 := Tryz.zeroValue9
 t20 := Tryz.underlying20
 a20 := Tryz.isAgg20
 z20 := Tryz.sizeOf20
 v20 := Tryz.zeroValue20
 t31 := Tryz.underlying57
 a31 := Tryz.isAgg57
 z31 := Tryz.sizeOf57
 v31 := Tryz.zeroValue57
 t37 := Tryz.underlying89
 a37 := Tryz.isAgg89
 z37 := Tryz.sizeOf89
 v37 := Tryz.zeroValue89
 t70 := Tryz.underlying91
 a70 := Tryz.isAgg91
 z70 := Tryz.sizeOf91
 v70 := Tryz.zeroValue91
 t72 := Tryz.underlying93
 a72 := Tryz.isAgg93
 z72 := Tryz.sizeOf93
 v72 := Tryz.zeroValue93
 t75 := Tryz.underlying95
 a75 := Tryz.isAgg95
 z75 := Tryz.sizeOf95
 v75 := Tryz.zeroValue95
 t76 := Tryz.underlying96
 a76 := Tryz.isAgg96
 z76 := Tryz.sizeOf96
 v76 := Tryz.zeroValue96
 t127 := Tryz.underlying112
 a127 := Tryz.isAgg112
 z127 := Tryz.sizeOf112
 v127 := Tryz.zeroValue112
 t164 := Tryz.underlying127
 a164 := Tryz.isAgg127
 z164 := Tryz.sizeOf127
 v164 := Tryz.zeroValue127 }
theorem Tryz.laysExtra : Go.Proofs.Builder.Extra Tryz.prog Tryz.lays156_ren := {
 sizeBuilder := by kernel_rfl
 liesBuilder := by kernel_rfl
 t5 := Tryz.underlying5
 a5 := Tryz.isAgg5
 z5 := Tryz.sizeOf5
 v5 := Tryz.zeroValue5
 infoByte := by kernel_rfl
 cellsByte := by kernel_rfl
 sizeByte := by kernel_rfl
 neB5 := by decide }
theorem cellsStr : Tryz.prog.cellsOf 9 = 1 := by kernel_rfl
def isStrs (es : List SV) : Prop := ∀ v ∈ es, ∃ l, v = .str l
def joinS (es : List SV) (sep : List UInt8) : List UInt8 := Lib.join (es.map asS) sep
noncomputable def jn_s : CSumm := fun args _ => match args with
 | [.psl 9 es, .str sep] => .ite (dec (isStrs es ∧ es.length ≤ 1000 ∧ (joinS es sep).length ≤ 140737488355328)) (.ret (.str (joinS es sep)) []) .fail
 | _ => .fail
theorem jn_k : Known Tryz.prog 30 jn_s := known_shelf Tryz.func30 noNumTry rfl (fun args H v ups h => by
 unfold jn_s at h
 split at h
 · rename_i es sep
   simp only [crun] at h
   split at h
   · rename_i hd
     obtain ⟨h0, hN, h1⟩ := dec_iff.1 hd
     cases h
     refine ⟨rfl, fun ω θ Im w us hl hH => ?_⟩
     obtain ⟨u, v, rfl, hu, hv⟩ := hl.pair
     cases hv with
     | str hs =>
     rename_i s
     cases hu with
     | psl us' g1 g0 g2 g3 g4 =>
     rename_i p n cap
     have hxs : ((es.map fun v => (⟨(asS v).toArray⟩ : ByteArray)).map (·.data.toList)) = es.map asS := by simp [List.map_map, Function.comp_def]
     have hlen : (es.map fun v => (⟨(asS v).toArray⟩ : ByteArray)).length = n := by rw [List.length_map]; exact g1
     have hj : Lib.join ((es.map fun v => (⟨(asS v).toArray⟩ : ByteArray)).map (·.data.toList)) s.data.toList = joinS es sep := by rw [hxs, hs]; rfl
     by_cases hn : n = 0
     · subst hn
       have he : es = [] := List.length_eq_zero_iff.1 g1
       subst he
       refine (Any.strings_Join_none Tryz.lays156 Tryz.laysExtra p cap s w).mono ?_
       rintro e w' ⟨rfl, rfl⟩
       exact ⟨_, rfl, RowKit.Below.refl _ _, fun _ => .str rfl⟩
     · obtain ⟨a, off, rfl, ha, hc⟩ := g4 hn
       have hcells : ∀ (j : Nat) x, (es.map fun v => (⟨(asS v).toArray⟩ : ByteArray))[j]? = some x → w.cell? ⟨a, off + j, none⟩ = some (.string x) := by
        intro j x hx
        rw [List.getElem?_map, Option.map_eq_some_iff] at hx
        obtain ⟨v, hv, rfl⟩ := hx
        obtain ⟨l, rfl⟩ := h0 v (List.mem_of_getElem? hv)
        have hj := (List.getElem?_eq_some_iff.1 hv).1
        have hr := g3 j _ hv
        obtain ⟨hc1, hc2⟩ := hc j (by omega)
        generalize us' j = u at hr hc1 hc2
        cases hr with
        | str hs' =>
        rename_i s'
        have := hc2 0 (.string s') rfl
        rw [cellsStr, Nat.mul_one, Nat.add_zero] at this
        rw [this]
        congr 2
        cases s' with
        | mk d => simp only [asS]; congr 1; simp only at hs'; rw [← hs']
       have := Any.strings_Join Tryz.lays156 Tryz.laysExtra a off cap (es.map fun v => (⟨(asS v).toArray⟩ : ByteArray)) s w hcells (hH.im a ha) (by omega) (by omega) (by rw [hj]; exact h1)
       rw [hlen] at this
       refine this.mono ?_
       rintro e w' ⟨rfl, hb⟩
       exact ⟨_, rfl, hb, fun _ => .str (by rw [hj])⟩
   · cases h
 · cases h)
noncomputable def jnq_s : CSumm := fun args H => match args, H with
 | [.qs 0 sz l n, .str sep], [(0, .seq 9 es)] => .ite (dec (sz = 1 ∧ l + n ≤ es.length ∧ isStrs ((es.drop l).take n) ∧ n ≤ 1000 ∧ (joinS ((es.drop l).take n) sep).length ≤ 140737488355328)) (.ret (.str (joinS ((es.drop l).take n) sep)) []) .fail
 | _, _ => .fail
theorem jnq_k : Known Tryz.prog 30 jnq_s := known_view3 jn_k (fun args H v ups h => by
 unfold jnq_s at h
 split at h
 · rename_i sz l n sep es
   simp only [crun] at h
   split at h
   · rename_i hd
     obtain ⟨rfl, h1, h2, h3, h4⟩ := dec_iff.1 hd
     cases h
     refine ⟨[], [.str sep], 9, es, l, n, 1, rfl, rfl, cellsStr.symm, h1, rfl, rfl, rfl, fun _ => rfl, ?_⟩
     show crun (jn_s [.psl 9 ((es.drop l).take n), .str sep] []) = _
     unfold jn_s
     simp only [crun]
     rw [if_pos (dec_iff.2 ⟨h2, by rw [List.length_take]; omega, h4⟩)]
   · cases h
 · cases h)
theorem known_pick {f : FuncId} {s1 s2 : CSumm} (h1 : Known Tryz.prog f s1) (h2 : Known Tryz.prog f s2) (p : List SV → HpL → Bool) : Known Tryz.prog f (fun args H => bif p args H then s1 args H else s2 args H) := by
 refine ⟨h1.fn, fun args H v ups hr => ?_⟩
 cases hp : p args H with
 | true => rw [hp] at hr; exact h1.ok args H v ups hr
 | false => rw [hp] at hr; exact h2.ok args H v ups hr
noncomputable def jnz_s : CSumm := fun args _ => match args with
 | [.sl _ _ _ 0, .str _] => .ret (.str []) []
 | _ => .fail
theorem jnz_k : Known Tryz.prog 30 jnz_s := known_shelf Tryz.func30 noNumTry rfl (fun args H v ups h => by
 unfold jnz_s at h
 split at h
 · cases h
   refine ⟨rfl, fun ω θ Im w us hl hH => ?_⟩
   obtain ⟨u, v, rfl, hu, hv⟩ := hl.pair
   cases hv with
   | str hs =>
   cases hu with
   | sl g1 g2 g3 =>
    refine (Any.strings_Join_none Tryz.lays156 Tryz.laysExtra _ _ _ w).mono ?_
    rintro e w' ⟨rfl, rfl⟩
    exact ⟨_, rfl, RowKit.Below.refl _ _, fun _ => .str rfl⟩
   | slnil =>
    refine (Any.strings_Join_none Tryz.lays156 Tryz.laysExtra _ _ _ w).mono ?_
    rintro e w' ⟨rfl, rfl⟩
    exact ⟨_, rfl, RowKit.Below.refl _ _, fun _ => .str rfl⟩
 · cases h)
def isSl : List SV → Bool
 | .sl _ _ _ _ :: _ => true
 | _ => false
noncomputable def join_s : CSumm := fun args H => bif isSl args then jnz_s args H else jnq_s args H
theorem join_k : Known Tryz.prog 30 join_s := known_pick jnz_k jnq_k fun args _ => isSl args
end Go.Proofs.YtpelignoebgkbaaGreatDoor
/- Scripts: a command is written: the trees, kind by kind. -/
namespace Go.Proofs.YtpelignoebgkbaaGreatDoor
open Go.Am
set_option maxRecDepth 100000
noncomputable abbrev κT : Nat → Option CSumm := tbl [(6, line_s), (24, itoa_s), (26, st_s), (27, hw_s), (28, ipt_s), (29, fmtu_s), (30, join_s)]
def spc : List UInt8 := [32]
def cmdEq (x y : Cmd) : Bool := x.k == y.k && (x.a == y.a && (x.b == y.b && (x.c == y.c && (x.up == y.up && (x.m == y.m && (x.i == y.i && x.d == y.d))))))
def txB : CTree := .ret (.tup [.str [], .int .i64 3]) []
noncomputable def endT (x : Cmd) (s : List UInt8) : CTree := bif decide (s.length ≤ 1000000) then
  bif (bif (bif (lineF s).2.2.1 != 0 then true else !(lineF s).2.1) then true else !(cmdEq (lineF s).1 x)) then txB else .ret (.tup [.str s, .int .i64 0]) []
 else .fail
noncomputable def joT (ws : List SV) (K : List UInt8 → CTree) : CTree :=
 bif dec (1 = 1 ∧ 0 + ws.length ≤ ws.length ∧ isStrs ((ws.drop 0).take ws.length) ∧ ws.length ≤ 1000 ∧ (joinS ((ws.drop 0).take ws.length) spc).length ≤ 140737488355328) then K (joinS ((ws.drop 0).take ws.length) spc) else .fail
noncomputable def inT (n : Int) (K : List UInt8 → CTree) : CTree := bif dec (-9223372036854775808 ≤ n ∧ n ≤ 9223372036854775807) then K (Lib.itoa n) else .fail
noncomputable def wrT (x : Cmd) : List Nat → List SV → CTree
 | [], ws => joT ws (endT x)
 | 0 :: qs, ws => inT x.a fun t => wrT x qs (ws ++ [.str t])
 | 1 :: qs, ws => inT x.b fun t => wrT x qs (ws ++ [.str t])
 | 2 :: qs, ws => bif x.b == -1 then wrT x qs (ws ++ [.str [110, 111, 110, 101]]) else inT x.b fun t => wrT x qs (ws ++ [.str t])
 | 3 :: qs, ws => inT x.b fun t => wrT x qs (ws ++ [.str t])
 | 4 :: qs, ws => wrT x qs (ws ++ [.str (upF x.up)])
 | 5 :: qs, ws => wrT x qs (ws ++ [.str (hwF x.m)])
 | 6 :: qs, ws => bif dec (∀ k, 0 ≤ octI x.i k ∧ octI x.i k ≤ 255) then wrT x qs (ws ++ [.str (ipB x.i)]) else .fail
 | _ :: qs, ws => bif dec (0 ≤ x.d ∧ x.d ≤ 18446744073709551615 ∧ (10 : Int) = 10) then wrT x qs (ws ++ [.str (Lib.decDigits x.d.toNat)]) else .fail
noncomputable def kTx (x : Cmd) : CTree := opn κT Tryz.f10 [.agg x.cs] []
noncomputable def kT (k : Int) (a b c : Int) (up : Bool) (m i d : Int) : CTree := kTx ⟨k, a, b, c, up, m, i, d⟩
theorem tx1 (a b c : Int) (up : Bool) (m i d : Int) : kT 1 a b c up m i d = wrT ⟨1, a, b, c, up, m, i, d⟩ [0] [.str [114, 117, 110]] := by kernel_rfl
theorem tx2 (a b c : Int) (up : Bool) (m i d : Int) : kT 2 a b c up m i d = wrT ⟨2, a, b, c, up, m, i, d⟩ [0, 4] [.str [108, 105, 110, 107]] := by kernel_rfl
theorem tx3 (a b c : Int) (up : Bool) (m i d : Int) : kT 3 a b c up m i d = wrT ⟨3, a, b, c, up, m, i, d⟩ [0, 4] [.str [110, 111, 100, 101]] := by kernel_rfl
theorem tx4 (a b c : Int) (up : Bool) (m i d : Int) : kT 4 a b c up m i d = wrT ⟨4, a, b, c, up, m, i, d⟩ [0, 1, 4] [.str [112, 111, 114, 116]] := by kernel_rfl
theorem tx5 (a b c : Int) (up : Bool) (m i d : Int) : kT 5 a b c up m i d = wrT ⟨5, a, b, c, up, m, i, d⟩ [0, 2] [.str [97, 116, 116, 97, 99, 104]] := by kernel_rfl
theorem tx6 (a b c : Int) (up : Bool) (m i d : Int) : kT 6 a b c up m i d = wrT ⟨6, a, b, c, up, m, i, d⟩ [0] [.str [114, 101, 115, 116, 97, 114, 116]] := by kernel_rfl
theorem tx7 (a b c : Int) (up : Bool) (m i d : Int) : kT 7 a b c up m i d = wrT ⟨7, a, b, c, up, m, i, d⟩ [0, 1, 5] [.str [116, 104, 97, 119]] := by kernel_rfl
theorem tx8 (a b c : Int) (up : Bool) (m i d : Int) : kT 8 a b c up m i d = wrT ⟨8, a, b, c, up, m, i, d⟩ [] [.str [97, 110, 110, 111, 117, 110, 99, 101]] := by kernel_rfl
theorem tx9 (a b c : Int) (up : Bool) (m i d : Int) : kT 9 a b c up m i d = wrT ⟨9, a, b, c, up, m, i, d⟩ [0, 5, 7] [.str [100, 97, 116, 97]] := by kernel_rfl
theorem tx10 (a b c : Int) (up : Bool) (m i d : Int) : kT 10 a b c up m i d = wrT ⟨10, a, b, c, up, m, i, d⟩ [0, 6, 7] [.str [97, 114, 112]] := by kernel_rfl
theorem tx11 (a b c : Int) (up : Bool) (m i d : Int) : kT 11 a b c up m i d = wrT ⟨11, a, b, c, up, m, i, d⟩ [0, 6, 3, 7] [.str [105, 112]] := by kernel_rfl
theorem tx12 (a b c : Int) (up : Bool) (m i d : Int) : kT 12 a b c up m i d = wrT ⟨12, a, b, c, up, m, i, d⟩ [0, 5, 7] [.str [116, 114, 97, 99, 101]] := by kernel_rfl
theorem txN (n : Nat) (a b c : Int) (up : Bool) (m i d : Int) : kT (.negSucc n) a b c up m i d = endT ⟨.negSucc n, a, b, c, up, m, i, d⟩ [] := by kernel_rfl
theorem tx0 (a b c : Int) (up : Bool) (m i d : Int) : kT (.ofNat 0) a b c up m i d = endT ⟨.ofNat 0, a, b, c, up, m, i, d⟩ [] := by kernel_rfl
theorem txG (n : Nat) (a b c : Int) (up : Bool) (m i d : Int) : kT (.ofNat (n + 13)) a b c up m i d = endT ⟨.ofNat (n + 13), a, b, c, up, m, i, d⟩ [] := by kernel_rfl
end Go.Proofs.YtpelignoebgkbaaGreatDoor
/- Scripts: a command is written, known. -/
namespace Go.Proofs.YtpelignoebgkbaaGreatDoor
open Go.Am
set_option maxRecDepth 100000
def wordTx (x : Cmd) : Nat → List UInt8
 | 0 => Lib.itoa x.a
 | 1 => Lib.itoa x.b
 | 2 => bif x.b == -1 then [110, 111, 110, 101] else Lib.itoa x.b
 | 3 => Lib.itoa x.b
 | 4 => upF x.up
 | 5 => hwF x.m
 | 6 => ipB x.i
 | _ => Lib.decDigits x.d.toNat
def CmdOk (x : Cmd) : Prop := (-9223372036854775808 ≤ x.a ∧ x.a ≤ 9223372036854775807) ∧ (-9223372036854775808 ≤ x.b ∧ x.b ≤ 9223372036854775807) ∧ (∀ k, 0 ≤ octI x.i k ∧ octI x.i k ≤ 255) ∧ 0 ≤ x.d ∧ x.d ≤ 18446744073709551615
def formOf (k : Int) : Option (List UInt8 × Int × List Nat) := formsL.find? fun f => f.2.1 == k
def wordsTx (x : Cmd) : List (List UInt8) := match formOf x.k with
 | none => []
 | some f => f.1 :: f.2.2.map (wordTx x)
def lineTx (x : Cmd) : List UInt8 := Lib.join (wordsTx x) spc
theorem pairsL_len : ∀ l : List Int, (pairsL l).length ≤ 3 * l.length
 | [] => by simp [pairsL]
 | [x] => by simp [pairsL]
 | x :: y :: r => by
  have := pairsL_len (y :: r)
  simp only [pairsL, List.length_cons] at this ⊢
  omega
theorem wordTx_len {x : Cmd} (h : CmdOk x) (q : Nat) : (wordTx x q).length ≤ 100 := by
 obtain ⟨⟨a0, a1⟩, ⟨b0, b1⟩, _, d0, d1⟩ := h
 have ha := Lib.itoa_length_le x.a a0 a1
 have hb := Lib.itoa_length_le x.b b0 b1
 unfold wordTx
 split
 · omega
 · omega
 · cases (x.b == -1)
   · rw [cond_false]; omega
   · simp
 · omega
 · unfold upF; cases x.up <;> simp
 · unfold hwF mactV
   cases (x.m == 281474976710655)
   · rw [cond_false]
     cases decide (x.m > 281474976710655)
     · have := pairsL_len (macL x.m)
       rw [cond_false]
       simp only [macL, List.length_cons, List.length_nil] at this ⊢
       omega
     · simp
   · simp
 · unfold ipB
   have h1 := dcB_len (octI x.i 24); have h2 := dcB_len (octI x.i 16); have h3 := dcB_len (octI x.i 8); have h4 := dcB_len (octI x.i 0)
   simp only [List.length_append, List.length_cons]
   omega
 · rw [Lib.decDigits_length]
   have := Lib.nDigits_le20 x.d.toNat (by omega)
   omega
theorem joinTail_le : ∀ (r : List (List UInt8)), (∀ w ∈ r, w.length ≤ 100) → (Lib.joinTail spc r).length ≤ 101 * r.length
 | [], _ => by simp [Lib.joinTail]
 | w :: r, h => by
  have := joinTail_le r (fun v hv => h v (by simp [hv]))
  have hw := h w (by simp)
  simp only [Lib.joinTail, List.map_cons, List.flatten_cons, List.length_append, List.length_cons] at this ⊢
  simp only [spc, List.length_cons, List.length_nil] at this ⊢
  omega
theorem join_le (l : List (List UInt8)) (h : ∀ w ∈ l, w.length ≤ 100) : (Lib.join l spc).length ≤ 101 * l.length := by
 cases l with
 | nil => simp [Lib.join_nil]
 | cons w r =>
  rw [Lib.join_cons, List.length_append]
  have := joinTail_le r (fun v hv => h v (by simp [hv]))
  have hw := h w (by simp)
  simp only [List.length_cons]
  omega
theorem joT_eq {ws : List SV} (hs : isStrs ws) (hn : ws.length ≤ 1000) (hw : ∀ v ∈ ws, (asS v).length ≤ 100) (K : List UInt8 → CTree) : joT ws K = K (Lib.join (ws.map asS) spc) := by
 have ht : (ws.drop 0).take ws.length = ws := by rw [List.drop_zero, List.take_length]
 have hl := join_le (ws.map asS) (fun v hv => by obtain ⟨u, hu, rfl⟩ := List.mem_map.1 hv; exact hw u hu)
 rw [List.length_map] at hl
 unfold joT
 rw [ht]
 have : dec (1 = 1 ∧ 0 + ws.length ≤ ws.length ∧ isStrs ws ∧ ws.length ≤ 1000 ∧ (joinS ws spc).length ≤ 140737488355328) = true := dec_iff.2 ⟨rfl, by omega, hs, hn, by unfold joinS; omega⟩
 rw [this, cond_true]
 rfl
theorem wrT_eq {x : Cmd} (h : CmdOk x) : ∀ (qs : List Nat) (ws : List SV), isStrs ws → ws.length + qs.length ≤ 1000 → (∀ v ∈ ws, (asS v).length ≤ 100) → wrT x qs ws = endT x (Lib.join (ws.map asS ++ qs.map (wordTx x)) spc)
 | [], ws, hs, hn, hw => by
  rw [wrT, joT_eq hs (by simpa using hn) hw, List.map_nil, List.append_nil]
 | q :: qs, ws, hs, hn, hw => by
  have step : wrT x qs (ws ++ [.str (wordTx x q)]) = endT x (Lib.join (ws.map asS ++ (q :: qs).map (wordTx x)) spc) := by
   rw [wrT_eq h qs (ws ++ [SV.str (wordTx x q)])]
   · simp [asS]
   · intro v hv
     rcases List.mem_append.1 hv with hv | hv
     · exact hs v hv
     · rw [List.mem_singleton] at hv; exact ⟨_, hv⟩
   · simp only [List.length_append, List.length_cons, List.length_nil] at hn ⊢; omega
   · intro v hv
     rcases List.mem_append.1 hv with hv | hv
     · exact hw v hv
     · rw [List.mem_singleton] at hv; subst hv; exact wordTx_len h q
  obtain ⟨⟨a0, a1⟩, ⟨b0, b1⟩, hi, d0, d1⟩ := h
  rw [← step]
  match q with
  | 0 => rw [wrT, inT, dec_iff.2 ⟨a0, a1⟩, cond_true]; rfl
  | 1 => rw [wrT, inT, dec_iff.2 ⟨b0, b1⟩, cond_true]; rfl
  | 2 =>
   rw [wrT, inT, dec_iff.2 ⟨b0, b1⟩, cond_true]
   show _ = wrT x qs (ws ++ [.str (bif x.b == -1 then [110, 111, 110, 101] else Lib.itoa x.b)])
   cases (x.b == -1) <;> rfl
  | 3 => rw [wrT, inT, dec_iff.2 ⟨b0, b1⟩, cond_true]; rfl
  | 4 => rw [wrT]; rfl
  | 5 => rw [wrT]; rfl
  | 6 => rw [wrT, dec_iff.2 hi, cond_true]; rfl
  | q + 7 =>
   have : wrT x ((q + 7) :: qs) ws = bif dec (0 ≤ x.d ∧ x.d ≤ 18446744073709551615 ∧ (10 : Int) = 10) then wrT x qs (ws ++ [.str (Lib.decDigits x.d.toNat)]) else .fail := rfl
   rw [this, dec_iff.2 ⟨d0, d1, rfl⟩, cond_true]; rfl
def okTx (x : Cmd) : Bool := bif (bif (lineF (lineTx x)).2.2.1 != 0 then true else !(lineF (lineTx x)).2.1) then true else !(cmdEq (lineF (lineTx x)).1 x)
def txR (x : Cmd) : CTree := bif okTx x then txB else .ret (.tup [.str (lineTx x), .int .i64 0]) []
theorem formOf_len {k : Int} {f : List UInt8 × Int × List Nat} (h : formOf k = some f) : f.1.length ≤ 100 ∧ f.2.2.length ≤ 4 := by
 have hm := List.mem_of_find?_eq_some h
 revert hm
 unfold formsL
 simp only [List.mem_cons, List.not_mem_nil, or_false]
 rintro (rfl | rfl | rfl | rfl | rfl | rfl | rfl | rfl | rfl | rfl | rfl | rfl) <;> simp
theorem lineTx_len {x : Cmd} (h : CmdOk x) : (lineTx x).length ≤ 1000 := by
 unfold lineTx wordsTx
 cases hf : formOf x.k with
 | none => simp [Lib.join_nil]
 | some f =>
  obtain ⟨h1, h2⟩ := formOf_len hf
  have := join_le (f.1 :: f.2.2.map (wordTx x)) (fun w hw => by
   rcases List.mem_cons.1 hw with rfl | hw
   · exact h1
   · obtain ⟨q, _, rfl⟩ := List.mem_map.1 hw; exact wordTx_len h q)
  simp only [List.length_cons, List.length_map] at this ⊢
  omega
theorem endT_eq {x : Cmd} (h : CmdOk x) : endT x (lineTx x) = txR x := by
 unfold endT
 rw [decide_eq_true (show (lineTx x).length ≤ 1000000 by have := lineTx_len h; omega), cond_true]
 rfl
theorem kT_eq {x : Cmd} (h : CmdOk x) : kT x.k x.a x.b x.c x.up x.m x.i x.d = txR x := by
 rw [← endT_eq h]
 have form : ∀ (nm : List UInt8) (qs : List Nat), nm.length ≤ 100 → qs.length ≤ 4 → formOf x.k = some (nm, x.k, qs) → wrT x qs [.str nm] = endT x (lineTx x) := by
  intro nm qs h1 h2 hf
  rw [wrT_eq h qs [.str nm] (fun v hv => ⟨nm, by simpa using hv⟩) (by simp; omega) (fun v hv => by rw [List.mem_singleton] at hv; subst hv; exact h1)]
  unfold lineTx wordsTx
  rw [hf]
  rfl
 obtain ⟨k, a, b, c, up, m, i, d⟩ := x
 have none' : formOf k = none → endT ⟨k, a, b, c, up, m, i, d⟩ [] = endT ⟨k, a, b, c, up, m, i, d⟩ (lineTx ⟨k, a, b, c, up, m, i, d⟩) := by
  intro hf
  unfold lineTx wordsTx
  simp only [hf]
  rfl
 match k with
 | .negSucc n => exact (txN n a b c up m i d).trans (none' rfl)
 | .ofNat 0 => exact (tx0 a b c up m i d).trans (none' rfl)
 | .ofNat 1 => exact (tx1 a b c up m i d).trans (form _ _ (by simp) (by simp) rfl)
 | .ofNat 2 => exact (tx2 a b c up m i d).trans (form _ _ (by simp) (by simp) rfl)
 | .ofNat 3 => exact (tx3 a b c up m i d).trans (form _ _ (by simp) (by simp) rfl)
 | .ofNat 4 => exact (tx4 a b c up m i d).trans (form _ _ (by simp) (by simp) rfl)
 | .ofNat 5 => exact (tx5 a b c up m i d).trans (form _ _ (by simp) (by simp) rfl)
 | .ofNat 6 => exact (tx6 a b c up m i d).trans (form _ _ (by simp) (by simp) rfl)
 | .ofNat 7 => exact (tx7 a b c up m i d).trans (form _ _ (by simp) (by simp) rfl)
 | .ofNat 8 => exact (tx8 a b c up m i d).trans (form _ _ (by simp) (by simp) rfl)
 | .ofNat 9 => exact (tx9 a b c up m i d).trans (form _ _ (by simp) (by simp) rfl)
 | .ofNat 10 => exact (tx10 a b c up m i d).trans (form _ _ (by simp) (by simp) rfl)
 | .ofNat 11 => exact (tx11 a b c up m i d).trans (form _ _ (by simp) (by simp) rfl)
 | .ofNat 12 => exact (tx12 a b c up m i d).trans (form _ _ (by simp) (by simp) rfl)
 | .ofNat (n + 13) => exact (txG n a b c up m i d).trans (none' (by
   have hb : ∀ z : Int, z < 13 → (z == Int.ofNat (n + 13)) = false := fun z hz => by rw [beq_eq_false_iff_ne]; intro e; have : z = ((n + 13 : Nat) : Int) := e; omega
   unfold formOf
   rw [List.find?_eq_none]
   intro f hf
   unfold formsL at hf
   simp only [List.mem_cons, List.not_mem_nil, or_false] at hf
   rcases hf with rfl | rfl | rfl | rfl | rfl | rfl | rfl | rfl | rfl | rfl | rfl | rfl <;> exact Bool.eq_false_iff.1 (hb _ (by decide))))
def asCmd (cs : List SV) : Cmd := ⟨asI (cs.getD 0 .junk), asI (cs.getD 1 .junk), asI (cs.getD 2 .junk), asI (cs.getD 3 .junk), asB (cs.getD 4 .junk), asI (cs.getD 5 .junk), asI (cs.getD 6 .junk), asI (cs.getD 7 .junk)⟩
theorem asCmd_cs (x : Cmd) : asCmd x.cs = x := rfl
theorem kTx_eq (x : Cmd) : kTx x = kT x.k x.a x.b x.c x.up x.m x.i x.d := rfl
def txS (x : Cmd) : CTree := .ite (okTx x) txB (.ret (.tup [.str (lineTx x), .int .i64 0]) [])
theorem txS_eq (x : Cmd) : crun (txS x) = crun (txR x) := by
 unfold txS txR
 rw [crun_ite]
 cases okTx x <;> rfl
noncomputable def text_s : CSumm := fun args H => match args, H with
 | [.agg cs], [] => .ite (dec (cs = (asCmd cs).cs ∧ CmdOk (asCmd cs))) (txS (asCmd cs)) .fail
 | _, _ => .fail
theorem κTok : KOk Tryz.prog κT := tbl_cons line_k (tbl_cons itoa_k (tbl_cons st_k (tbl_cons hw_k (tbl_cons ipt_k (tbl_cons fmtu_k (tbl_cons join_k ok0))))))
theorem text_k0 : Known Tryz.prog 10 (opn κT Tryz.f10) := openKnown κTok Tryz.func10 rfl
theorem text_k : Known Tryz.prog 10 text_s := text_k0.weak (by
 intro args H v ups h
 unfold text_s at h
 split at h
 · rename_i cs
   rw [crun_ite, cond_eq_ite] at h
   split at h
   · rename_i hc
     obtain ⟨hcs, hok⟩ := dec_iff.1 hc
     have hk := (kTx_eq _).trans (kT_eq hok)
     generalize asCmd cs = x at hcs hok hk h
     subst hcs
     show crun (kTx x) = _
     rw [hk, ← txS_eq]
     exact h
   · cases h
 · cases h)
end Go.Proofs.YtpelignoebgkbaaGreatDoor
/- The reference's numbers: its loop. -/
namespace Go.Proofs.YtpelignoebgkbaaGreatDoor
open Go.Am
set_option maxRecDepth 100000
def accR (most : Int) : List UInt8 → Int → Bool → Int × Bool
 | [], v, o => (v, o)
 | b :: bs, v, o => bif (bif o then true else decide (v > Int.tdiv (most - ((b.toNat : Int) - 48)) 10)) then accR most bs v true else accR most bs (10 * v + ((b.toNat : Int) - 48)) false
def rnOk (s : List UInt8) (most v i : Int) : Prop := 9 ≤ most ∧ most ≤ 9223372036854775807 ∧ 0 ≤ v ∧ v ≤ most ∧ s.length ≤ 1000000 ∧ 0 ≤ i ∧ i ≤ s.length
noncomputable def body36 : Code := Tryz.f36.body.getD .skip
noncomputable def c36 : Code := (loopAt 5 body36).getD .skip
noncomputable def rn_s : CSumm := fun args H => match args, H with
 | [.str s, .int .i64 most, .int .i64 v, .bool o, .int .i64 i], [] => .ite (dec (rnOk s most v i)) (.ite ((s.drop i.toNat).all digB) (.ret (.tup [.int .i64 2, .junk, .junk, .int .i64 (accR most (s.drop i.toNat) v o).1, .bool (accR most (s.drop i.toNat) v o).2]) [])
   (.ret (.tup [.int .i64 1, .int .i64 0, .int .i64 19, .junk, .junk]) [])) .fail
 | _, _ => .fail
def rnM : List SV → HpL → Nat
 | .str s :: _ :: _ :: _ :: .int _ i :: _, _ => ((s.length : Int) - i).toNat
 | _, _ => 0
noncomputable def e36 : LEnt := { ins := [0, 1, 6, 7, 8], outs := [4, 5, 6, 7], keep := [], size := 60, code := c36, s := rn_s }
noncomputable def rnN (N : Nat) (s : List UInt8) (most v : Int) (o : Bool) (i : Int) : CTree := bif Nat.blt ((s.length : Int) - i).toNat N then bif dec (rnOk s most v i) then bif (s.drop i.toNat).all digB then (.ret (.tup [.int .i64 2, .junk, .junk, .int .i64 (accR most (s.drop i.toNat) v o).1, .bool (accR most (s.drop i.toNat) v o).2]) [])
      else (.ret (.tup [.int .i64 1, .int .i64 0, .int .i64 19, .junk, .junk]) []) else .fail else .fail
def rnR (v : Int) (o : Bool) : CTree := .ret (.tup [.int .i64 1, .int .i64 0, .int .i64 19, .int .i64 v, .bool o]) []
noncomputable def rnD (N : Nat) (s : List UInt8) (most v : Int) (o : Bool) (i d : Int) : CTree :=
 bif o then rnN N s most v true (w64 (i + 1)) else
 bif !(decide (v > w64 (Int.tdiv (w64 (most - d)) 10))) then rnN N s most (w64 (w64 (10 * v) + d)) (decide (v > w64 (Int.tdiv (w64 (most - d)) 10))) (w64 (i + 1)) else rnN N s most v (decide (v > w64 (Int.tdiv (w64 (most - d)) 10))) (w64 (i + 1))
noncomputable def rnX (N : Nat) (s : List UInt8) (most v : Int) (o : Bool) (i c : Int) : CTree := bif decide (c < 48) then rnR v o else bif inB i s.length then bif decide (c > 57) then rnR v o else bif inB i s.length then rnD N s most v o i (w64 (w8 (c - 48))) else .fail else .fail
theorem rn_t (N : Nat) (s : List UInt8) (most v : Int) (o : Bool) (i : Int) : loopOnce Tryz.prog κ0 (fun _ => false) (ltab []) true 300 e36 { e36 with s := boundT rnM rn_s N } c36 [.str s, .int .i64 most, .int .i64 v, .bool o, .int .i64 i] [] =
 bif decide (i < s.length) then bif inB i s.length then rnX N s most v o i ((s.getD i.toNat 0).toNat : Int) else .fail else .ret (.tup [.int .i64 2, .junk, .junk, .int .i64 v, .bool o]) [] := by kernel_rfl
end Go.Proofs.YtpelignoebgkbaaGreatDoor
