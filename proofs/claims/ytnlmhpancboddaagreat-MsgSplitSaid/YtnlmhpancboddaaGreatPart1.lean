/- Texts of addresses: the program. -/
import Derived.Test.YtnlmhpancboddaaGreatMachine5
import Derived.KernelRfl
import Derived.Test.YtnlmhpancboddaaGreatRows
import Derived.Test.YtnlmhpancboddaaGreatMachine6
set_option linter.unusedVariables false
set_option linter.unusedSimpArgs false
namespace Go.Proofs.YtnlmhpancboddaaGreat
open Go.Am
set_option maxRecDepth 100000
theorem noNumTry:noNum Tryz.prog:=by unfold noNum;kernel_rfl
theorem mixTry:Tryz.prog.follows .mixedOrders=true:=by kernel_rfl
theorem ok0:KOk Tryz.prog(tbl []):=tbl_nil
noncomputable abbrev opn(T:Nat->Option CSumm)(fn:Func):CSumm:=bodyC Tryz.prog(openT Tryz.prog T 300 5)(fun g=>inl T g&&hasBody Tryz.prog g)true 300 fn
theorem openKnown{T:Nat->Option CSumm}(hT:KOk Tryz.prog T){f:Nat}{fn:Func}(hf:Tryz.prog.funcs[f]? =some fn)(hb:fn.body.isNone=false):Known Tryz.prog f(opn T fn):=
 known_of_bodyC noNumTry mixTry(openT_ok noNumTry mixTry hT 300 5)hf hb(fun _ _ _ _ h=>h)
theorem crun_ite(b:Bool)(x y:CTree):crun(.ite b x y)=bif b then crun x else crun y:=by cases b <;> rfl
theorem crun_cond(b:Bool)(x y:CTree):crun(bif b then x else y)=bif b then crun x else crun y:=by cases b <;> rfl
theorem w64_id{n:Int}(h1: -9223372036854775808<=n)(h2:n<=9223372036854775807):IntKind.i64.wrap n=n:=by
 simp[IntKind.wrap,IntKind.bits,IntKind.signed];omega
structure Nl where
 (kind rd e0 e1 e2 e3 e4 e5 e6 e7 e8 e9 tag mac ip:Int)(hip:Bool)(pip plen gw lab lab2:Int)
abbrev Nl.v(n:Nl):SV:=.agg [.int .i64 n.kind,.int .u64 n.rd,.int .u8 n.e0,.int .u8 n.e1,.int .u8 n.e2,.int .u8 n.e3,.int .u8 n.e4,.int .u8 n.e5,.int .u8 n.e6,.int .u8 n.e7,.int .u8 n.e8,.int .u8 n.e9,.int .u32 n.tag,.int .u64 n.mac,.int .u32 n.ip,.bool n.hip,.int .u32 n.pip,.int .i64 n.plen,.int .u32 n.gw,.int .u32 n.lab,.int .u32 n.lab2]
structure At where
 (ori:Int)(path:List SV)(nx:Int)(hm:Bool)(med:Int)(hp:Bool)(prf:Int)(ho:Bool)(orr:Int)(cl cm:List SV)(tk tl tr tg:Int)
abbrev At.v(a:At):SV:=.agg [.int .i64 a.ori,.psl 36 a.path,.int .u32 a.nx,.bool a.hm,.int .u32 a.med,.bool a.hp,.int .u32 a.prf,.bool a.ho,.int .u32 a.orr,.psl 37 a.cl,.psl 136 a.cm,.int .i64 a.tk,.int .u32 a.tl,.int .u32 a.tr,.int .u32 a.tg]
def vld(l:Int):Bool:=bif decide(l>=0)then decide(l<=32)else false
def mskI(l:Int):Int:=IntKind.u32.wrap(4294967295 * 2 ^ min(IntKind.i64.wrap(32 - l)).toNat IntKind.u32.bits)
def mskR(l:Int):Int:=IntKind.u32.wrap ↑(BitVec.ofInt IntKind.u32.bits(if IntKind.u32.signed=true then -1 else IntKind.u32.max) ^^^ BitVec.ofInt IntKind.u32.bits(IntKind.u32.wrap(IntKind.u32.wrap(1 * 2 ^ min(IntKind.i64.wrap(32 - l)).toNat IntKind.u32.bits) - 1))).toNat
def clnI(a b:Int):Int:=IntKind.u32.wrap ↑(BitVec.ofInt IntKind.u32.bits a&&& BitVec.ofInt IntKind.u32.bits(mskI b)).toNat
def mask_s:CSumm
 | [.int .i64 l],[]=>.ite(decide(IntKind.i64.wrap(32 - l) < 0)) .fail(.ret(.int .u32(mskI l)) [])
 | _,_=>.fail
def maskR_s:CSumm
 | [.int .i64 l],[]=>.ite(decide(IntKind.i64.wrap(32 - l) < 0)) .fail(.ite(vld l)(.ret(.int .u32(mskI l)) []) .fail)
 | _,_=>.fail
theorem masks:∀ n < 33,mskR(n:Nat)=mskI(n:Nat):=by decide+kernel
theorem vld_iff(l:Int):vld l=true↔0<=l/\l<=32:=by
 unfold vld
 cases h:decide(l>=0) <;> simp at h ⊢ <;> omega
theorem mask_eq{l:Int}(h:vld l=true):mskR l=mskI l:=by
 have hl:=(vld_iff l).1 h
 have:=masks l.toNat(by omega)
 rwa [show((l.toNat:Nat):Int)=l by omega]at this
theorem mask_k:Known Tryz.prog 134 mask_s:=(openKnown ok0 Tryz.func134 rfl).weak(by
 intro args H v ups h
 unfold mask_s at h
 split at h
 . rename_i l
   rw[<- h]
   have e:opn(tbl [])Tryz.f134 [.int .i64 l] []=bif decide(IntKind.i64.wrap(32 - l) < 0)then .fail else .ret(.int .u32(mskI l)) []:=by kernel_rfl
   refine(congrArg crun e).trans ?_
   rw[crun_ite,crun_cond]
 . cases h)
theorem maskR_k:Known Tryz.prog 150 maskR_s:=(openKnown ok0 Tryz.func150 rfl).weak(by
 intro args H v ups h
 unfold maskR_s at h
 split at h
 . rename_i l
   have e:opn(tbl [])Tryz.f150 [.int .i64 l] []=bif decide(IntKind.i64.wrap(32 - l) < 0)then .fail else .ret(.int .u32(mskR l)) []:=by kernel_rfl
   rw[crun_ite,crun_ite]at h
   refine(congrArg crun e).trans ?_
   rw[crun_cond]
   cases hw:decide(IntKind.i64.wrap(32 - l) < 0)with
   | true=>rw[hw]at h;cases h
   | false=>
    cases hv:vld l with
    | false=>rw[hw,hv]at h;cases h
    | true=>rw[hw,hv]at h;rw[mask_eq hv];exact h
 . cases h)
abbrev κm:=tbl [(134,mask_s),(150,maskR_s)]
theorem maskOk:KOk Tryz.prog κm:=tbl_cons mask_k(tbl_cons maskR_k ok0)
def restP(kind mac ip:Int)(hip:Bool)(pip plen lab lab2:Int):CTree:=bif(bif !hip then(bif bif kind==3 then true else kind==4 then true else bif kind==2 then ip!=0 else false)else false)then .ret(.int .i64 3) []else bif(bif bif decide(mac > 281474976710655)then true else decide(lab > 16777215)then true else decide(lab2 > 16777215))then .ret(.int .i64 2) []else bif !vld plen then .ret(.int .i64 2) []else bif decide(IntKind.i64.wrap(32 - plen) < 0)then .fail else bif !(clnI pip plen==pip&&plen==plen)then .ret(.int .i64 3) []else .ret(.int .i64 0) []
def restR(mac pip plen lab lab2:Int):CTree:=bif(bif bif bif bif decide(mac > 281474976710655)then true else decide(lab > 16777215)then true else decide(lab2 > 16777215)then true else decide(plen < 0)then true else decide(plen > 32))then .ret(.int .i64 2) []else
 bif !vld plen then(bif !(0==pip&&0==plen)then .ret(.int .i64 3) []else .ret(.int .i64 0) [])else bif decide(IntKind.i64.wrap(32 - plen) < 0)then .fail else bif vld plen then(bif !(clnI pip plen==pip&&plen==plen)then .ret(.int .i64 3) []else .ret(.int .i64 0) [])else .fail
theorem ncheck_t(kind rd e0 e1 e2 e3 e4 e5 e6 e7 e8 e9 tag mac ip:Int)(hip:Bool)(pip plen gw lab lab2:Int):opn κm Tryz.f82 [Nl.v⟨kind,rd,e0,e1,e2,e3,e4,e5,e6,e7,e8,e9,tag,mac,ip,hip,pip,plen,gw,lab,lab2⟩] []=bif bif decide(kind < 1)then true else decide(kind > 5)then .ret(.int .i64 6) []else
 bif kind==2 then(bif !(pip==0&&(plen==0&&(gw==0&&(true&&(true)))))then .ret(.int .i64 3) []else restP kind mac ip hip pip plen lab lab2)else
 bif kind==1 then(bif !(mac==0&&(ip==0&&(hip==false&&(pip==0&&(plen==0&&(gw==0&&(true&&(lab2==0))))))))then .ret(.int .i64 3) []else restP kind mac ip hip pip plen lab lab2)else
 bif kind==3 then(bif !(e0==0&&(e1==0&&(e2==0&&(e3==0&&(e4==0&&(e5==0&&(e6==0&&(e7==0&&(e8==0&&(e9==0&&(true&&(mac==0&&(true&&(true&&(pip==0&&(plen==0&&(gw==0&&(lab==0&&(lab2==0)))))))))))))))))))then .ret(.int .i64 3) []else restP kind mac ip hip pip plen lab lab2)else
 bif kind==4 then(bif !(tag==0&&(mac==0&&(true&&(true&&(pip==0&&(plen==0&&(gw==0&&(lab==0&&(lab2==0)))))))))then .ret(.int .i64 3) []else restP kind mac ip hip pip plen lab lab2)else
 bif kind==5 then(bif !(mac==0&&(ip==0&&(hip==false&&(true&&(true&&(true&&(true&&(lab2==0))))))))then .ret(.int .i64 3) []else restP kind mac ip hip pip plen lab lab2)else
 (bif !(e0==0&&(e1==0&&(e2==0&&(e3==0&&(e4==0&&(e5==0&&(e6==0&&(e7==0&&(e8==0&&(e9==0&&(tag==0&&(mac==0&&(ip==0&&(hip==false&&(pip==0&&(plen==0&&(gw==0&&(lab==0&&(lab2==0)))))))))))))))))))then .ret(.int .i64 3) []else restP kind mac ip hip pip plen lab lab2):=by kernel_rfl
theorem rcheck_t(kind rd e0 e1 e2 e3 e4 e5 e6 e7 e8 e9 tag mac ip:Int)(hip:Bool)(pip plen gw lab lab2:Int):opn κm Tryz.f142 [Nl.v⟨kind,rd,e0,e1,e2,e3,e4,e5,e6,e7,e8,e9,tag,mac,ip,hip,pip,plen,gw,lab,lab2⟩] []=
 bif kind==1 then(bif !(kind==kind&&(rd==rd&&(e0==e0&&(e1==e1&&(e2==e2&&(e3==e3&&(e4==e4&&(e5==e5&&(e6==e6&&(e7==e7&&(e8==e8&&(e9==e9&&(tag==tag&&(0==mac&&(0==ip&&(false==hip&&(0==pip&&(0==plen&&(0==gw&&(lab==lab&&(0==lab2)))))))))))))))))))))then .ret(.int .i64 3) []else restR mac pip plen lab lab2)else
 bif kind==2 then(bif hip then(bif !(kind==kind&&(rd==rd&&(e0==e0&&(e1==e1&&(e2==e2&&(e3==e3&&(e4==e4&&(e5==e5&&(e6==e6&&(e7==e7&&(e8==e8&&(e9==e9&&(tag==tag&&(mac==mac&&(ip==ip&&(hip==hip&&(0==pip&&(0==plen&&(0==gw&&(lab==lab&&(lab2==lab2)))))))))))))))))))))then .ret(.int .i64 3) []else restR mac pip plen lab lab2)else(bif !(kind==kind&&(rd==rd&&(e0==e0&&(e1==e1&&(e2==e2&&(e3==e3&&(e4==e4&&(e5==e5&&(e6==e6&&(e7==e7&&(e8==e8&&(e9==e9&&(tag==tag&&(mac==mac&&(0==ip&&(hip==hip&&(0==pip&&(0==plen&&(0==gw&&(lab==lab&&(lab2==lab2)))))))))))))))))))))then .ret(.int .i64 3) []else restR mac pip plen lab lab2))else
 bif kind==3 then(bif !(kind==kind&&(rd==rd&&(0==e0&&(0==e1&&(0==e2&&(0==e3&&(0==e4&&(0==e5&&(0==e6&&(0==e7&&(0==e8&&(0==e9&&(tag==tag&&(0==mac&&(ip==ip&&(true==hip&&(0==pip&&(0==plen&&(0==gw&&(0==lab&&(0==lab2)))))))))))))))))))))then .ret(.int .i64 3) []else restR mac pip plen lab lab2)else
 bif kind==4 then(bif !(kind==kind&&(rd==rd&&(e0==e0&&(e1==e1&&(e2==e2&&(e3==e3&&(e4==e4&&(e5==e5&&(e6==e6&&(e7==e7&&(e8==e8&&(e9==e9&&(0==tag&&(0==mac&&(ip==ip&&(true==hip&&(0==pip&&(0==plen&&(0==gw&&(0==lab&&(0==lab2)))))))))))))))))))))then .ret(.int .i64 3) []else restR mac pip plen lab lab2)else
 bif kind==5 then(bif !(kind==kind&&(rd==rd&&(e0==e0&&(e1==e1&&(e2==e2&&(e3==e3&&(e4==e4&&(e5==e5&&(e6==e6&&(e7==e7&&(e8==e8&&(e9==e9&&(tag==tag&&(0==mac&&(0==ip&&(false==hip&&(pip==pip&&(plen==plen&&(gw==gw&&(lab==lab&&(0==lab2)))))))))))))))))))))then .ret(.int .i64 3) []else restR mac pip plen lab lab2)else
 .ret(.int .i64 6) []:=by kernel_rfl
def fm(n:Nl):Bool:=
 bif n.kind==1 then(n.mac==0&&n.ip==0&& !n.hip&&n.pip==0&&n.plen==0&&n.gw==0&&n.lab2==0)
 else bif n.kind==2 then(n.pip==0&&n.plen==0&&n.gw==0&&(n.hip||n.ip==0))
 else bif n.kind==3 then(n.e0==0&&n.e1==0&&n.e2==0&&n.e3==0&&n.e4==0&&n.e5==0&&n.e6==0&&n.e7==0&&n.e8==0&&n.e9==0&&n.mac==0&&n.hip&&n.pip==0&&n.plen==0&&n.gw==0&&n.lab==0&&n.lab2==0)
 else bif n.kind==4 then(n.tag==0&&n.mac==0&&n.hip&&n.pip==0&&n.plen==0&&n.gw==0&&n.lab==0&&n.lab2==0)
 else bif n.kind==5 then(n.mac==0&&n.ip==0&& !n.hip&&n.lab2==0)else false
def big(n:Nl):Bool:=decide(n.mac > 281474976710655)||decide(n.lab > 16777215)||decide(n.lab2 > 16777215)
def chk(n:Nl):Int:=
 bif decide(n.kind < 1)||decide(n.kind > 5)then 6 else bif !fm n then 3 else bif big n then 2 else bif !vld n.plen then 2 else bif clnI n.pip n.plen==n.pip then 0 else 3
def chkT(n:Nl):Int:=bif big n then 2 else bif !vld n.plen then 2 else bif clnI n.pip n.plen==n.pip then 0 else 3
theorem restR_ok(n:Nl):crun(restR n.mac n.pip n.plen n.lab n.lab2)=some(.int .i64(chkT n),[]):=by
 obtain⟨kind,rd,e0,e1,e2,e3,e4,e5,e6,e7,e8,e9,tag,mac,ip,hip,pip,plen,gw,lab,lab2⟩:=n
 simp only[restR,chkT,big]
 cases hv:vld plen with
 | true=>
  have hp:=(vld_iff plen).1 hv
  rw[w64_id(by omega)(by omega),dF(show ¬(32 - plen < 0)by omega),dF(show ¬(plen < 0)by omega),dF(show ¬(plen > 32)by omega)]
  cases decide(mac > 281474976710655) <;> cases decide(lab > 16777215) <;> cases decide(lab2 > 16777215) <;> simp[crun]
  cases clnI pip plen==pip <;> simp[crun]
 | false=>
  have hp:plen < 0\/32 < plen:=by
   have:=mt(vld_iff plen).2(by rw[hv];decide)
   omega
  have:(bif decide(plen < 0)then true else decide(plen > 32))=true:=by
   rcases hp with h | h
   . simp[h]
   . simp[h]
  cases decide(mac > 281474976710655) <;> cases decide(lab > 16777215) <;> cases decide(lab2 > 16777215) <;> cases h1:decide(plen < 0) <;> cases h2:decide(plen > 32) <;> simp_all[crun]
theorem restP_ok(n:Nl)(hh:(bif !n.hip then(bif bif n.kind==3 then true else n.kind==4 then true else bif n.kind==2 then n.ip!=0 else false)else false)=false):crun(restP n.kind n.mac n.ip n.hip n.pip n.plen n.lab n.lab2)=some(.int .i64(chkT n),[]):=by
 unfold restP
 rw[hh]
 obtain⟨kind,rd,e0,e1,e2,e3,e4,e5,e6,e7,e8,e9,tag,mac,ip,hip,pip,plen,gw,lab,lab2⟩:=n
 simp only[chkT,big]
 cases hv:vld plen with
 | true=>
  have hp:=(vld_iff plen).1 hv
  rw[w64_id(by omega)(by omega),dF(show ¬(32 - plen < 0)by omega)]
  cases decide(mac > 281474976710655) <;> cases decide(lab > 16777215) <;> cases decide(lab2 > 16777215) <;> simp[crun]
  cases clnI pip plen==pip <;> simp[crun]
 | false=>cases decide(mac > 281474976710655) <;> cases decide(lab > 16777215) <;> cases decide(lab2 > 16777215) <;> simp[crun]
theorem chk_fm(n:Nl)(h1:1<=n.kind)(h5:n.kind<=5):chk n=bif fm n then chkT n else 3:=by
 unfold chk chkT
 rw[dF(by omega),dF(by omega)]
 cases fm n <;> rfl
theorem z_eq(a:Int):((0:Int)==a)=(a==0):=by
 rw[Bool.eq_iff_iff,beq_iff_eq,beq_iff_eq];exact eq_comm
theorem fmP_1(rd e0 e1 e2 e3 e4 e5 e6 e7 e8 e9 tag mac ip:Int)(hip:Bool)(pip plen gw lab lab2:Int):fm⟨1,rd,e0,e1,e2,e3,e4,e5,e6,e7,e8,e9,tag,mac,ip,hip,pip,plen,gw,lab,lab2⟩=((mac==0&&(ip==0&&(hip==false&&(pip==0&&(plen==0&&(gw==0&&(true&&(lab2==0))))))))&&true):=by
 cases hip <;> simp[fm,Bool.and_assoc]
theorem ncheck_1(rd e0 e1 e2 e3 e4 e5 e6 e7 e8 e9 tag mac ip:Int)(hip:Bool)(pip plen gw lab lab2:Int):crun(opn κm Tryz.f82 [Nl.v⟨1,rd,e0,e1,e2,e3,e4,e5,e6,e7,e8,e9,tag,mac,ip,hip,pip,plen,gw,lab,lab2⟩] [])=some(.int .i64(chk⟨1,rd,e0,e1,e2,e3,e4,e5,e6,e7,e8,e9,tag,mac,ip,hip,pip,plen,gw,lab,lab2⟩),[]):=by
 have ht:opn κm Tryz.f82 [Nl.v⟨1,rd,e0,e1,e2,e3,e4,e5,e6,e7,e8,e9,tag,mac,ip,hip,pip,plen,gw,lab,lab2⟩] []=bif !(mac==0&&(ip==0&&(hip==false&&(pip==0&&(plen==0&&(gw==0&&(true&&(lab2==0))))))))then .ret(.int .i64 3) []else restP 1 mac ip hip pip plen lab lab2:=ncheck_t 1 rd e0 e1 e2 e3 e4 e5 e6 e7 e8 e9 tag mac ip hip pip plen gw lab lab2
 rw[ht,chk_fm _(show(1:Int)<=1 by decide)(show(1:Int)<=5 by decide),fmP_1]
 generalize hC:(mac==0&&(ip==0&&(hip==false&&(pip==0&&(plen==0&&(gw==0&&(true&&(lab2==0))))))))=C
 cases C with
 | false=>rfl
 | true=>
  cases hG:(true:Bool)with
  | true=>exact restP_ok⟨1,rd,e0,e1,e2,e3,e4,e5,e6,e7,e8,e9,tag,mac,ip,hip,pip,plen,gw,lab,lab2⟩(by revert hG;cases hip <;> simp)
  | false=>
   cases hG
theorem rcheck_1(rd e0 e1 e2 e3 e4 e5 e6 e7 e8 e9 tag mac ip:Int)(hip:Bool)(pip plen gw lab lab2:Int):crun(opn κm Tryz.f142 [Nl.v⟨1,rd,e0,e1,e2,e3,e4,e5,e6,e7,e8,e9,tag,mac,ip,hip,pip,plen,gw,lab,lab2⟩] [])=some(.int .i64(chk⟨1,rd,e0,e1,e2,e3,e4,e5,e6,e7,e8,e9,tag,mac,ip,hip,pip,plen,gw,lab,lab2⟩),[]):=by
 have ht:opn κm Tryz.f142 [Nl.v⟨1,rd,e0,e1,e2,e3,e4,e5,e6,e7,e8,e9,tag,mac,ip,hip,pip,plen,gw,lab,lab2⟩] []=(bif !(1==1&&(rd==rd&&(e0==e0&&(e1==e1&&(e2==e2&&(e3==e3&&(e4==e4&&(e5==e5&&(e6==e6&&(e7==e7&&(e8==e8&&(e9==e9&&(tag==tag&&(0==mac&&(0==ip&&(false==hip&&(0==pip&&(0==plen&&(0==gw&&(lab==lab&&(0==lab2)))))))))))))))))))))then CTree.ret(.int .i64 3) []else restR mac pip plen lab lab2):=rcheck_t 1 rd e0 e1 e2 e3 e4 e5 e6 e7 e8 e9 tag mac ip hip pip plen gw lab lab2
 have hE:fm⟨1,rd,e0,e1,e2,e3,e4,e5,e6,e7,e8,e9,tag,mac,ip,hip,pip,plen,gw,lab,lab2⟩=(1==1&&(rd==rd&&(e0==e0&&(e1==e1&&(e2==e2&&(e3==e3&&(e4==e4&&(e5==e5&&(e6==e6&&(e7==e7&&(e8==e8&&(e9==e9&&(tag==tag&&(0==mac&&(0==ip&&(false==hip&&(0==pip&&(0==plen&&(0==gw&&(lab==lab&&(0==lab2))))))))))))))))))))):=by
  cases hip <;> simp[fm,z_eq,Bool.and_assoc]
 rw[ht,chk_fm _(show(1:Int)<=1 by decide)(show(1:Int)<=5 by decide),hE]
 generalize(1==1&&(rd==rd&&(e0==e0&&(e1==e1&&(e2==e2&&(e3==e3&&(e4==e4&&(e5==e5&&(e6==e6&&(e7==e7&&(e8==e8&&(e9==e9&&(tag==tag&&(0==mac&&(0==ip&&(false==hip&&(0==pip&&(0==plen&&(0==gw&&(lab==lab&&(0==lab2)))))))))))))))))))))=C
 cases C with
 | false=>rfl
 | true=>exact restR_ok⟨1,rd,e0,e1,e2,e3,e4,e5,e6,e7,e8,e9,tag,mac,ip,hip,pip,plen,gw,lab,lab2⟩
theorem fmP_2(rd e0 e1 e2 e3 e4 e5 e6 e7 e8 e9 tag mac ip:Int)(hip:Bool)(pip plen gw lab lab2:Int):fm⟨2,rd,e0,e1,e2,e3,e4,e5,e6,e7,e8,e9,tag,mac,ip,hip,pip,plen,gw,lab,lab2⟩=((pip==0&&(plen==0&&(gw==0&&(true&&(true)))))&&(hip||ip==0)):=by
 cases hip <;> simp[fm,Bool.and_assoc]
theorem ncheck_2(rd e0 e1 e2 e3 e4 e5 e6 e7 e8 e9 tag mac ip:Int)(hip:Bool)(pip plen gw lab lab2:Int):crun(opn κm Tryz.f82 [Nl.v⟨2,rd,e0,e1,e2,e3,e4,e5,e6,e7,e8,e9,tag,mac,ip,hip,pip,plen,gw,lab,lab2⟩] [])=some(.int .i64(chk⟨2,rd,e0,e1,e2,e3,e4,e5,e6,e7,e8,e9,tag,mac,ip,hip,pip,plen,gw,lab,lab2⟩),[]):=by
 have ht:opn κm Tryz.f82 [Nl.v⟨2,rd,e0,e1,e2,e3,e4,e5,e6,e7,e8,e9,tag,mac,ip,hip,pip,plen,gw,lab,lab2⟩] []=bif !(pip==0&&(plen==0&&(gw==0&&(true&&(true)))))then .ret(.int .i64 3) []else restP 2 mac ip hip pip plen lab lab2:=ncheck_t 2 rd e0 e1 e2 e3 e4 e5 e6 e7 e8 e9 tag mac ip hip pip plen gw lab lab2
 rw[ht,chk_fm _(show(1:Int)<=2 by decide)(show(2:Int)<=5 by decide),fmP_2]
 generalize hC:(pip==0&&(plen==0&&(gw==0&&(true&&(true)))))=C
 cases C with
 | false=>rfl
 | true=>
  cases hG:((hip||ip==0):Bool)with
  | true=>exact restP_ok⟨2,rd,e0,e1,e2,e3,e4,e5,e6,e7,e8,e9,tag,mac,ip,hip,pip,plen,gw,lab,lab2⟩(by revert hG;cases hip <;> simp)
  | false=>
   cases hip with
   | true=>simp at hG
   | false=>
    have h0:(ip!=0)=true:=by simpa using hG
    simp[restP,h0,crun]
theorem rcheck_2(rd e0 e1 e2 e3 e4 e5 e6 e7 e8 e9 tag mac ip:Int)(hip:Bool)(pip plen gw lab lab2:Int):crun(opn κm Tryz.f142 [Nl.v⟨2,rd,e0,e1,e2,e3,e4,e5,e6,e7,e8,e9,tag,mac,ip,hip,pip,plen,gw,lab,lab2⟩] [])=some(.int .i64(chk⟨2,rd,e0,e1,e2,e3,e4,e5,e6,e7,e8,e9,tag,mac,ip,hip,pip,plen,gw,lab,lab2⟩),[]):=by
 have ht:opn κm Tryz.f142 [Nl.v⟨2,rd,e0,e1,e2,e3,e4,e5,e6,e7,e8,e9,tag,mac,ip,hip,pip,plen,gw,lab,lab2⟩] []=(bif hip then(bif !(2==2&&(rd==rd&&(e0==e0&&(e1==e1&&(e2==e2&&(e3==e3&&(e4==e4&&(e5==e5&&(e6==e6&&(e7==e7&&(e8==e8&&(e9==e9&&(tag==tag&&(mac==mac&&(ip==ip&&(hip==hip&&(0==pip&&(0==plen&&(0==gw&&(lab==lab&&(lab2==lab2)))))))))))))))))))))then CTree.ret(.int .i64 3) []else restR mac pip plen lab lab2)else(bif !(2==2&&(rd==rd&&(e0==e0&&(e1==e1&&(e2==e2&&(e3==e3&&(e4==e4&&(e5==e5&&(e6==e6&&(e7==e7&&(e8==e8&&(e9==e9&&(tag==tag&&(mac==mac&&(0==ip&&(hip==hip&&(0==pip&&(0==plen&&(0==gw&&(lab==lab&&(lab2==lab2)))))))))))))))))))))then .ret(.int .i64 3) []else restR mac pip plen lab lab2)):=rcheck_t 2 rd e0 e1 e2 e3 e4 e5 e6 e7 e8 e9 tag mac ip hip pip plen gw lab lab2
 have hE:fm⟨2,rd,e0,e1,e2,e3,e4,e5,e6,e7,e8,e9,tag,mac,ip,hip,pip,plen,gw,lab,lab2⟩=bif hip then(2==2&&(rd==rd&&(e0==e0&&(e1==e1&&(e2==e2&&(e3==e3&&(e4==e4&&(e5==e5&&(e6==e6&&(e7==e7&&(e8==e8&&(e9==e9&&(tag==tag&&(mac==mac&&(ip==ip&&(hip==hip&&(0==pip&&(0==plen&&(0==gw&&(lab==lab&&(lab2==lab2)))))))))))))))))))))else(2==2&&(rd==rd&&(e0==e0&&(e1==e1&&(e2==e2&&(e3==e3&&(e4==e4&&(e5==e5&&(e6==e6&&(e7==e7&&(e8==e8&&(e9==e9&&(tag==tag&&(mac==mac&&(0==ip&&(hip==hip&&(0==pip&&(0==plen&&(0==gw&&(lab==lab&&(lab2==lab2))))))))))))))))))))):=by
  cases hip <;> simp[fm,z_eq,Bool.and_comm,Bool.and_left_comm]
 rw[ht,chk_fm _(show(1:Int)<=2 by decide)(show(2:Int)<=5 by decide),hE]
 cases hip with
 | true=>
  simp only[cT]
  generalize(2==2&&(rd==rd&&(e0==e0&&(e1==e1&&(e2==e2&&(e3==e3&&(e4==e4&&(e5==e5&&(e6==e6&&(e7==e7&&(e8==e8&&(e9==e9&&(tag==tag&&(mac==mac&&(ip==ip&&(true==true&&(0==pip&&(0==plen&&(0==gw&&(lab==lab&&(lab2==lab2)))))))))))))))))))))=C
  cases C with
  | false=>rfl
  | true=>exact restR_ok⟨2,rd,e0,e1,e2,e3,e4,e5,e6,e7,e8,e9,tag,mac,ip,true,pip,plen,gw,lab,lab2⟩
 | false=>
  simp only[cF]
  generalize(2==2&&(rd==rd&&(e0==e0&&(e1==e1&&(e2==e2&&(e3==e3&&(e4==e4&&(e5==e5&&(e6==e6&&(e7==e7&&(e8==e8&&(e9==e9&&(tag==tag&&(mac==mac&&(0==ip&&(false==false&&(0==pip&&(0==plen&&(0==gw&&(lab==lab&&(lab2==lab2)))))))))))))))))))))=C
  cases C with
  | false=>rfl
  | true=>exact restR_ok⟨2,rd,e0,e1,e2,e3,e4,e5,e6,e7,e8,e9,tag,mac,ip,false,pip,plen,gw,lab,lab2⟩
theorem fmP_3(rd e0 e1 e2 e3 e4 e5 e6 e7 e8 e9 tag mac ip:Int)(hip:Bool)(pip plen gw lab lab2:Int):fm⟨3,rd,e0,e1,e2,e3,e4,e5,e6,e7,e8,e9,tag,mac,ip,hip,pip,plen,gw,lab,lab2⟩=((e0==0&&(e1==0&&(e2==0&&(e3==0&&(e4==0&&(e5==0&&(e6==0&&(e7==0&&(e8==0&&(e9==0&&(true&&(mac==0&&(true&&(true&&(pip==0&&(plen==0&&(gw==0&&(lab==0&&(lab2==0)))))))))))))))))))&&hip):=by
 cases hip <;> simp[fm,Bool.and_assoc]
theorem ncheck_3(rd e0 e1 e2 e3 e4 e5 e6 e7 e8 e9 tag mac ip:Int)(hip:Bool)(pip plen gw lab lab2:Int):crun(opn κm Tryz.f82 [Nl.v⟨3,rd,e0,e1,e2,e3,e4,e5,e6,e7,e8,e9,tag,mac,ip,hip,pip,plen,gw,lab,lab2⟩] [])=some(.int .i64(chk⟨3,rd,e0,e1,e2,e3,e4,e5,e6,e7,e8,e9,tag,mac,ip,hip,pip,plen,gw,lab,lab2⟩),[]):=by
 have ht:opn κm Tryz.f82 [Nl.v⟨3,rd,e0,e1,e2,e3,e4,e5,e6,e7,e8,e9,tag,mac,ip,hip,pip,plen,gw,lab,lab2⟩] []=bif !(e0==0&&(e1==0&&(e2==0&&(e3==0&&(e4==0&&(e5==0&&(e6==0&&(e7==0&&(e8==0&&(e9==0&&(true&&(mac==0&&(true&&(true&&(pip==0&&(plen==0&&(gw==0&&(lab==0&&(lab2==0)))))))))))))))))))then .ret(.int .i64 3) []else restP 3 mac ip hip pip plen lab lab2:=ncheck_t 3 rd e0 e1 e2 e3 e4 e5 e6 e7 e8 e9 tag mac ip hip pip plen gw lab lab2
 rw[ht,chk_fm _(show(1:Int)<=3 by decide)(show(3:Int)<=5 by decide),fmP_3]
 generalize hC:(e0==0&&(e1==0&&(e2==0&&(e3==0&&(e4==0&&(e5==0&&(e6==0&&(e7==0&&(e8==0&&(e9==0&&(true&&(mac==0&&(true&&(true&&(pip==0&&(plen==0&&(gw==0&&(lab==0&&(lab2==0)))))))))))))))))))=C
 cases C with
 | false=>rfl
 | true=>
  cases hip with
  | true=>exact restP_ok⟨3,rd,e0,e1,e2,e3,e4,e5,e6,e7,e8,e9,tag,mac,ip,true,pip,plen,gw,lab,lab2⟩rfl
  | false=>rfl
theorem rcheck_3(rd e0 e1 e2 e3 e4 e5 e6 e7 e8 e9 tag mac ip:Int)(hip:Bool)(pip plen gw lab lab2:Int):crun(opn κm Tryz.f142 [Nl.v⟨3,rd,e0,e1,e2,e3,e4,e5,e6,e7,e8,e9,tag,mac,ip,hip,pip,plen,gw,lab,lab2⟩] [])=some(.int .i64(chk⟨3,rd,e0,e1,e2,e3,e4,e5,e6,e7,e8,e9,tag,mac,ip,hip,pip,plen,gw,lab,lab2⟩),[]):=by
 have ht:opn κm Tryz.f142 [Nl.v⟨3,rd,e0,e1,e2,e3,e4,e5,e6,e7,e8,e9,tag,mac,ip,hip,pip,plen,gw,lab,lab2⟩] []=(bif !(3==3&&(rd==rd&&(0==e0&&(0==e1&&(0==e2&&(0==e3&&(0==e4&&(0==e5&&(0==e6&&(0==e7&&(0==e8&&(0==e9&&(tag==tag&&(0==mac&&(ip==ip&&(true==hip&&(0==pip&&(0==plen&&(0==gw&&(0==lab&&(0==lab2)))))))))))))))))))))then CTree.ret(.int .i64 3) []else restR mac pip plen lab lab2):=rcheck_t 3 rd e0 e1 e2 e3 e4 e5 e6 e7 e8 e9 tag mac ip hip pip plen gw lab lab2
 have hE:fm⟨3,rd,e0,e1,e2,e3,e4,e5,e6,e7,e8,e9,tag,mac,ip,hip,pip,plen,gw,lab,lab2⟩=(3==3&&(rd==rd&&(0==e0&&(0==e1&&(0==e2&&(0==e3&&(0==e4&&(0==e5&&(0==e6&&(0==e7&&(0==e8&&(0==e9&&(tag==tag&&(0==mac&&(ip==ip&&(true==hip&&(0==pip&&(0==plen&&(0==gw&&(0==lab&&(0==lab2))))))))))))))))))))):=by
  cases hip <;> simp[fm,z_eq,Bool.and_assoc]
 rw[ht,chk_fm _(show(1:Int)<=3 by decide)(show(3:Int)<=5 by decide),hE]
 generalize(3==3&&(rd==rd&&(0==e0&&(0==e1&&(0==e2&&(0==e3&&(0==e4&&(0==e5&&(0==e6&&(0==e7&&(0==e8&&(0==e9&&(tag==tag&&(0==mac&&(ip==ip&&(true==hip&&(0==pip&&(0==plen&&(0==gw&&(0==lab&&(0==lab2)))))))))))))))))))))=C
 cases C with
 | false=>rfl
 | true=>exact restR_ok⟨3,rd,e0,e1,e2,e3,e4,e5,e6,e7,e8,e9,tag,mac,ip,hip,pip,plen,gw,lab,lab2⟩
theorem fmP_4(rd e0 e1 e2 e3 e4 e5 e6 e7 e8 e9 tag mac ip:Int)(hip:Bool)(pip plen gw lab lab2:Int):fm⟨4,rd,e0,e1,e2,e3,e4,e5,e6,e7,e8,e9,tag,mac,ip,hip,pip,plen,gw,lab,lab2⟩=((tag==0&&(mac==0&&(true&&(true&&(pip==0&&(plen==0&&(gw==0&&(lab==0&&(lab2==0)))))))))&&hip):=by
 cases hip <;> simp[fm,Bool.and_assoc]
theorem ncheck_4(rd e0 e1 e2 e3 e4 e5 e6 e7 e8 e9 tag mac ip:Int)(hip:Bool)(pip plen gw lab lab2:Int):crun(opn κm Tryz.f82 [Nl.v⟨4,rd,e0,e1,e2,e3,e4,e5,e6,e7,e8,e9,tag,mac,ip,hip,pip,plen,gw,lab,lab2⟩] [])=some(.int .i64(chk⟨4,rd,e0,e1,e2,e3,e4,e5,e6,e7,e8,e9,tag,mac,ip,hip,pip,plen,gw,lab,lab2⟩),[]):=by
 have ht:opn κm Tryz.f82 [Nl.v⟨4,rd,e0,e1,e2,e3,e4,e5,e6,e7,e8,e9,tag,mac,ip,hip,pip,plen,gw,lab,lab2⟩] []=bif !(tag==0&&(mac==0&&(true&&(true&&(pip==0&&(plen==0&&(gw==0&&(lab==0&&(lab2==0)))))))))then .ret(.int .i64 3) []else restP 4 mac ip hip pip plen lab lab2:=ncheck_t 4 rd e0 e1 e2 e3 e4 e5 e6 e7 e8 e9 tag mac ip hip pip plen gw lab lab2
 rw[ht,chk_fm _(show(1:Int)<=4 by decide)(show(4:Int)<=5 by decide),fmP_4]
 generalize hC:(tag==0&&(mac==0&&(true&&(true&&(pip==0&&(plen==0&&(gw==0&&(lab==0&&(lab2==0)))))))))=C
 cases C with
 | false=>rfl
 | true=>
  cases hip with
  | true=>exact restP_ok⟨4,rd,e0,e1,e2,e3,e4,e5,e6,e7,e8,e9,tag,mac,ip,true,pip,plen,gw,lab,lab2⟩rfl
  | false=>rfl
theorem rcheck_4(rd e0 e1 e2 e3 e4 e5 e6 e7 e8 e9 tag mac ip:Int)(hip:Bool)(pip plen gw lab lab2:Int):crun(opn κm Tryz.f142 [Nl.v⟨4,rd,e0,e1,e2,e3,e4,e5,e6,e7,e8,e9,tag,mac,ip,hip,pip,plen,gw,lab,lab2⟩] [])=some(.int .i64(chk⟨4,rd,e0,e1,e2,e3,e4,e5,e6,e7,e8,e9,tag,mac,ip,hip,pip,plen,gw,lab,lab2⟩),[]):=by
 have ht:opn κm Tryz.f142 [Nl.v⟨4,rd,e0,e1,e2,e3,e4,e5,e6,e7,e8,e9,tag,mac,ip,hip,pip,plen,gw,lab,lab2⟩] []=(bif !(4==4&&(rd==rd&&(e0==e0&&(e1==e1&&(e2==e2&&(e3==e3&&(e4==e4&&(e5==e5&&(e6==e6&&(e7==e7&&(e8==e8&&(e9==e9&&(0==tag&&(0==mac&&(ip==ip&&(true==hip&&(0==pip&&(0==plen&&(0==gw&&(0==lab&&(0==lab2)))))))))))))))))))))then CTree.ret(.int .i64 3) []else restR mac pip plen lab lab2):=rcheck_t 4 rd e0 e1 e2 e3 e4 e5 e6 e7 e8 e9 tag mac ip hip pip plen gw lab lab2
 have hE:fm⟨4,rd,e0,e1,e2,e3,e4,e5,e6,e7,e8,e9,tag,mac,ip,hip,pip,plen,gw,lab,lab2⟩=(4==4&&(rd==rd&&(e0==e0&&(e1==e1&&(e2==e2&&(e3==e3&&(e4==e4&&(e5==e5&&(e6==e6&&(e7==e7&&(e8==e8&&(e9==e9&&(0==tag&&(0==mac&&(ip==ip&&(true==hip&&(0==pip&&(0==plen&&(0==gw&&(0==lab&&(0==lab2))))))))))))))))))))):=by
  cases hip <;> simp[fm,z_eq,Bool.and_assoc]
 rw[ht,chk_fm _(show(1:Int)<=4 by decide)(show(4:Int)<=5 by decide),hE]
 generalize(4==4&&(rd==rd&&(e0==e0&&(e1==e1&&(e2==e2&&(e3==e3&&(e4==e4&&(e5==e5&&(e6==e6&&(e7==e7&&(e8==e8&&(e9==e9&&(0==tag&&(0==mac&&(ip==ip&&(true==hip&&(0==pip&&(0==plen&&(0==gw&&(0==lab&&(0==lab2)))))))))))))))))))))=C
 cases C with
 | false=>rfl
 | true=>exact restR_ok⟨4,rd,e0,e1,e2,e3,e4,e5,e6,e7,e8,e9,tag,mac,ip,hip,pip,plen,gw,lab,lab2⟩
theorem fmP_5(rd e0 e1 e2 e3 e4 e5 e6 e7 e8 e9 tag mac ip:Int)(hip:Bool)(pip plen gw lab lab2:Int):fm⟨5,rd,e0,e1,e2,e3,e4,e5,e6,e7,e8,e9,tag,mac,ip,hip,pip,plen,gw,lab,lab2⟩=((mac==0&&(ip==0&&(hip==false&&(true&&(true&&(true&&(true&&(lab2==0))))))))&&true):=by
 cases hip <;> simp[fm,Bool.and_assoc]
theorem ncheck_5(rd e0 e1 e2 e3 e4 e5 e6 e7 e8 e9 tag mac ip:Int)(hip:Bool)(pip plen gw lab lab2:Int):crun(opn κm Tryz.f82 [Nl.v⟨5,rd,e0,e1,e2,e3,e4,e5,e6,e7,e8,e9,tag,mac,ip,hip,pip,plen,gw,lab,lab2⟩] [])=some(.int .i64(chk⟨5,rd,e0,e1,e2,e3,e4,e5,e6,e7,e8,e9,tag,mac,ip,hip,pip,plen,gw,lab,lab2⟩),[]):=by
 have ht:opn κm Tryz.f82 [Nl.v⟨5,rd,e0,e1,e2,e3,e4,e5,e6,e7,e8,e9,tag,mac,ip,hip,pip,plen,gw,lab,lab2⟩] []=bif !(mac==0&&(ip==0&&(hip==false&&(true&&(true&&(true&&(true&&(lab2==0))))))))then .ret(.int .i64 3) []else restP 5 mac ip hip pip plen lab lab2:=ncheck_t 5 rd e0 e1 e2 e3 e4 e5 e6 e7 e8 e9 tag mac ip hip pip plen gw lab lab2
 rw[ht,chk_fm _(show(1:Int)<=5 by decide)(show(5:Int)<=5 by decide),fmP_5]
 generalize hC:(mac==0&&(ip==0&&(hip==false&&(true&&(true&&(true&&(true&&(lab2==0))))))))=C
 cases C with
 | false=>rfl
 | true=>
  cases hG:(true:Bool)with
  | true=>exact restP_ok⟨5,rd,e0,e1,e2,e3,e4,e5,e6,e7,e8,e9,tag,mac,ip,hip,pip,plen,gw,lab,lab2⟩(by revert hG;cases hip <;> simp)
  | false=>
   cases hG
theorem rcheck_5(rd e0 e1 e2 e3 e4 e5 e6 e7 e8 e9 tag mac ip:Int)(hip:Bool)(pip plen gw lab lab2:Int):crun(opn κm Tryz.f142 [Nl.v⟨5,rd,e0,e1,e2,e3,e4,e5,e6,e7,e8,e9,tag,mac,ip,hip,pip,plen,gw,lab,lab2⟩] [])=some(.int .i64(chk⟨5,rd,e0,e1,e2,e3,e4,e5,e6,e7,e8,e9,tag,mac,ip,hip,pip,plen,gw,lab,lab2⟩),[]):=by
 have ht:opn κm Tryz.f142 [Nl.v⟨5,rd,e0,e1,e2,e3,e4,e5,e6,e7,e8,e9,tag,mac,ip,hip,pip,plen,gw,lab,lab2⟩] []=(bif !(5==5&&(rd==rd&&(e0==e0&&(e1==e1&&(e2==e2&&(e3==e3&&(e4==e4&&(e5==e5&&(e6==e6&&(e7==e7&&(e8==e8&&(e9==e9&&(tag==tag&&(0==mac&&(0==ip&&(false==hip&&(pip==pip&&(plen==plen&&(gw==gw&&(lab==lab&&(0==lab2)))))))))))))))))))))then CTree.ret(.int .i64 3) []else restR mac pip plen lab lab2):=rcheck_t 5 rd e0 e1 e2 e3 e4 e5 e6 e7 e8 e9 tag mac ip hip pip plen gw lab lab2
 have hE:fm⟨5,rd,e0,e1,e2,e3,e4,e5,e6,e7,e8,e9,tag,mac,ip,hip,pip,plen,gw,lab,lab2⟩=(5==5&&(rd==rd&&(e0==e0&&(e1==e1&&(e2==e2&&(e3==e3&&(e4==e4&&(e5==e5&&(e6==e6&&(e7==e7&&(e8==e8&&(e9==e9&&(tag==tag&&(0==mac&&(0==ip&&(false==hip&&(pip==pip&&(plen==plen&&(gw==gw&&(lab==lab&&(0==lab2))))))))))))))))))))):=by
  cases hip <;> simp[fm,z_eq,Bool.and_assoc]
 rw[ht,chk_fm _(show(1:Int)<=5 by decide)(show(5:Int)<=5 by decide),hE]
 generalize(5==5&&(rd==rd&&(e0==e0&&(e1==e1&&(e2==e2&&(e3==e3&&(e4==e4&&(e5==e5&&(e6==e6&&(e7==e7&&(e8==e8&&(e9==e9&&(tag==tag&&(0==mac&&(0==ip&&(false==hip&&(pip==pip&&(plen==plen&&(gw==gw&&(lab==lab&&(0==lab2)))))))))))))))))))))=C
 cases C with
 | false=>rfl
 | true=>exact restR_ok⟨5,rd,e0,e1,e2,e3,e4,e5,e6,e7,e8,e9,tag,mac,ip,hip,pip,plen,gw,lab,lab2⟩
theorem ncheck_ok(n:Nl):crun(opn κm Tryz.f82 [n.v] [])=some(.int .i64(chk n),[]):=by
 obtain⟨kind,rd,e0,e1,e2,e3,e4,e5,e6,e7,e8,e9,tag,mac,ip,hip,pip,plen,gw,lab,lab2⟩:=n
 by_cases h:1<=kind/\kind<=5
 . obtain⟨h1,h5⟩:=h
   obtain rfl | rfl | rfl | rfl | rfl:kind=1\/kind=2\/kind=3\/kind=4\/kind=5:=by omega
   . exact ncheck_1 rd e0 e1 e2 e3 e4 e5 e6 e7 e8 e9 tag mac ip hip pip plen gw lab lab2
   . exact ncheck_2 rd e0 e1 e2 e3 e4 e5 e6 e7 e8 e9 tag mac ip hip pip plen gw lab lab2
   . exact ncheck_3 rd e0 e1 e2 e3 e4 e5 e6 e7 e8 e9 tag mac ip hip pip plen gw lab lab2
   . exact ncheck_4 rd e0 e1 e2 e3 e4 e5 e6 e7 e8 e9 tag mac ip hip pip plen gw lab lab2
   . exact ncheck_5 rd e0 e1 e2 e3 e4 e5 e6 e7 e8 e9 tag mac ip hip pip plen gw lab lab2
 . have hc:(decide(kind < 1)||decide(kind > 5))=true:=by
     simp only[Bool.or_eq_true,decide_eq_true_eq];omega
   have hd:(bif decide(kind < 1)then true else decide(kind > 5))=true:=by rw[<- hc];cases decide(kind < 1) <;> rfl
   rw[ncheck_t,hd]
   simp only[chk,hc,crun,cT]
theorem rcheck_ok(n:Nl):crun(opn κm Tryz.f142 [n.v] [])=some(.int .i64(chk n),[]):=by
 obtain⟨kind,rd,e0,e1,e2,e3,e4,e5,e6,e7,e8,e9,tag,mac,ip,hip,pip,plen,gw,lab,lab2⟩:=n
 by_cases h:1<=kind/\kind<=5
 . obtain⟨h1,h5⟩:=h
   obtain rfl | rfl | rfl | rfl | rfl:kind=1\/kind=2\/kind=3\/kind=4\/kind=5:=by omega
   . exact rcheck_1 rd e0 e1 e2 e3 e4 e5 e6 e7 e8 e9 tag mac ip hip pip plen gw lab lab2
   . exact rcheck_2 rd e0 e1 e2 e3 e4 e5 e6 e7 e8 e9 tag mac ip hip pip plen gw lab lab2
   . exact rcheck_3 rd e0 e1 e2 e3 e4 e5 e6 e7 e8 e9 tag mac ip hip pip plen gw lab lab2
   . exact rcheck_4 rd e0 e1 e2 e3 e4 e5 e6 e7 e8 e9 tag mac ip hip pip plen gw lab lab2
   . exact rcheck_5 rd e0 e1 e2 e3 e4 e5 e6 e7 e8 e9 tag mac ip hip pip plen gw lab lab2
 . have hc:(decide(kind < 1)||decide(kind > 5))=true:=by
     simp only[Bool.or_eq_true,decide_eq_true_eq];omega
   rw[rcheck_t,beq_eq_false_iff_ne.2(show kind≠1 by omega),beq_eq_false_iff_ne.2(show kind≠2 by omega),beq_eq_false_iff_ne.2(show kind≠3 by omega),beq_eq_false_iff_ne.2(show kind≠4 by omega),beq_eq_false_iff_ne.2(show kind≠5 by omega)]
   simp only[chk,hc,crun,cT,cF]
def nlOf:SV->Option Nl
 | .agg [.int .i64 kind,.int .u64 rd,.int .u8 e0,.int .u8 e1,.int .u8 e2,.int .u8 e3,.int .u8 e4,.int .u8 e5,.int .u8 e6,.int .u8 e7,.int .u8 e8,.int .u8 e9,.int .u32 tag,.int .u64 mac,.int .u32 ip,.bool hip,.int .u32 pip,.int .i64 plen,.int .u32 gw,.int .u32 lab,.int .u32 lab2]=>some⟨kind,rd,e0,e1,e2,e3,e4,e5,e6,e7,e8,e9,tag,mac,ip,hip,pip,plen,gw,lab,lab2⟩
 | _=>none
theorem nlOf_v{x:SV}{n:Nl}(h:nlOf x=some n):x=n.v:=by
 unfold nlOf at h
 split at h
 . cases h;rfl
 . cases h
def check_s:CSumm:=fun args H=>match args,H with
 | [x],[]=>match nlOf x with
  | some n=>.ret(.int .i64(chk n)) []
  | none=>.fail
 | _,_=>.fail
theorem check_case{args:List SV}{H:HpL}{v:SV}{ups:List(Nat × Option Chunk)}(h:crun(check_s args H)=some(v,ups)):∃ n:Nl,args=[n.v]/\H=[]/\v= .int .i64(chk n)/\ups=[]:=by
 unfold check_s at h
 split at h
 . rename_i x
   split at h
   . rename_i n hn
     cases h
     exact⟨n,by rw[nlOf_v hn],rfl,rfl,rfl⟩
   . cases h
 . cases h
theorem ncheck_k:Known Tryz.prog 82 check_s:=(openKnown maskOk Tryz.func82 rfl).weak(by
 intro args H v ups h
 obtain⟨n,rfl,rfl,rfl,rfl⟩:=check_case h
 exact ncheck_ok n)
theorem rcheck_k:Known Tryz.prog 142 check_s:=(openKnown maskOk Tryz.func142 rfl).weak(by
 intro args H v ups h
 obtain⟨n,rfl,rfl,rfl,rfl⟩:=check_case h
 exact rcheck_ok n)
end Go.Proofs.YtnlmhpancboddaaGreat
