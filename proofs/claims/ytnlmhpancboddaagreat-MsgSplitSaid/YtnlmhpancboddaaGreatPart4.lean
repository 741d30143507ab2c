/- Routes: their values are put. -/
import Derived.Test.YtnlmhpancboddaaGreatPart1
import Derived.Test.YtnlmhpancboddaaGreatPart3
set_option linter.unusedVariables false
set_option linter.unusedSimpArgs false
namespace Go.Proofs.YtnlmhpancboddaaGreat
open Go.Am
set_option maxRecDepth 100000
abbrev κb:=tbl [(82,check_s),(27,wr_s 1),(26,wr_s 2),(108,wr_s 3),(41,wr_s 4),(177,wr_s 6),(172,wr_s 8),(24,bytes_s),(28,out_s)]
theorem bOk:KOk Tryz.prog κb:=tbl_cons ncheck_k(tbl_cons u8_k(tbl_cons u16_k(tbl_cons u24_k(tbl_cons u32_k(tbl_cons u48_k(tbl_cons u64_k(tbl_cons bytes_k(tbl_cons out_k ok0))))))))
structure OkP(n:Nl):Prop where
 (rd0:0<=n.rd)(rd1:n.rd < 18446744073709551616)(tag0:0<=n.tag)(tag1:n.tag < 4294967296)(mac0:0<=n.mac)(mac1:n.mac < 281474976710656)(ip0:0<=n.ip)(ip1:n.ip < 4294967296)(pip0:0<=n.pip)(pip1:n.pip < 4294967296)(pl0:0<=n.plen)(pl1:n.plen < 256)(gw0:0<=n.gw)(gw1:n.gw < 4294967296)(lab0:0<=n.lab)(lab1:n.lab < 16777216)(lac0:0<=n.lab2)(lac1:n.lab2 < 16777216)
noncomputable instance okPDec(n:Nl):Decidable(OkP n):=Classical.propDecidable _
theorem wu_id{n:Int}(h1:0<=n)(h2:n < 18446744073709551616):IntKind.u64.wrap n=n:=by
 simp[IntKind.wrap,IntKind.bits,IntKind.signed];omega
def val1(n:Nl):List SV:=be n.rd 8++[.int .u8 n.e0,.int .u8 n.e1,.int .u8 n.e2,.int .u8 n.e3,.int .u8 n.e4,.int .u8 n.e5,.int .u8 n.e6,.int .u8 n.e7,.int .u8 n.e8,.int .u8 n.e9]++be n.tag 4++be n.lab 3
def val2(n:Nl):List SV:=be n.rd 8++[.int .u8 n.e0,.int .u8 n.e1,.int .u8 n.e2,.int .u8 n.e3,.int .u8 n.e4,.int .u8 n.e5,.int .u8 n.e6,.int .u8 n.e7,.int .u8 n.e8,.int .u8 n.e9]++be n.tag 4++be 48 1++be n.mac 6++(bif n.hip then be 32 1++be n.ip 4 else be 0 1)++be n.lab 3++(bif n.lab2!=0 then be n.lab2 3 else [])
def val3(n:Nl):List SV:=be n.rd 8++be n.tag 4++be 32 1++be n.ip 4
def val4(n:Nl):List SV:=be n.rd 8++[.int .u8 n.e0,.int .u8 n.e1,.int .u8 n.e2,.int .u8 n.e3,.int .u8 n.e4,.int .u8 n.e5,.int .u8 n.e6,.int .u8 n.e7,.int .u8 n.e8,.int .u8 n.e9]++be 32 1++be n.ip 4
def val5(n:Nl):List SV:=be n.rd 8++[.int .u8 n.e0,.int .u8 n.e1,.int .u8 n.e2,.int .u8 n.e3,.int .u8 n.e4,.int .u8 n.e5,.int .u8 n.e6,.int .u8 n.e7,.int .u8 n.e8,.int .u8 n.e9]++be n.tag 4++be n.plen 1++be n.pip 4++be n.gw 4++be n.lab 3
noncomputable def cput_s(val:Nl->List SV):CSumm:=fun args H=>match args,H with
 | [.agg [],.ptr 0 0,x],[(0,.cells 111 [.nils,.int .i64 lim,.mp 1]),(1,.mpc [] [])]=>match nlOf x with
  | some n=>.ite(decide(lim=40/\OkP n))(.ret(.tup []) [(0,some(.cells 111 [.qs 2 1 0(val n).length,.int .i64 40,.mp 1])),(2,some(.seq 5(val n)))]) .fail
  | none=>.fail
 | _,_=>.fail
theorem cput_case{val:Nl->List SV}{args:List SV}{H:HpL}{v:SV}{ups:List(Nat × Option Chunk)}(h:crun(cput_s val args H)=some(v,ups)):
  ∃ n:Nl,OkP n/\args=[.agg [],.ptr 0 0,n.v]/\H=[(0,.cells 111 [.nils,.int .i64 40,.mp 1]),(1,.mpc [] [])]/\v= .tup []/\ups=[(0,some(.cells 111 [.qs 2 1 0(val n).length,.int .i64 40,.mp 1])),(2,some(.seq 5(val n)))]:=by
 unfold cput_s at h
 split at h
 . rename_i x lim
   split at h
   . rename_i n hn
     rw[crun_ite,cond_eq_ite]at h
     split at h
     . rename_i hc
       have hc2:lim=40/\OkP n:=by simpa using hc
       obtain⟨rfl,hok⟩:=hc2
       cases h
       exact⟨n,hok,by rw[nlOf_v hn],rfl,rfl,rfl⟩
     . cases h
   . cases h
 . cases h
theorem cput_t1(kind rd e0 e1 e2 e3 e4 e5 e6 e7 e8 e9 tag mac ip:Int)(hip:Bool)(pip plen gw lab lab2:Int):opn κb Tryz.f169 [.agg [],.ptr 0 0,Nl.v⟨kind,rd,e0,e1,e2,e3,e4,e5,e6,e7,e8,e9,tag,mac,ip,hip,pip,plen,gw,lab,lab2⟩] [(0,.cells 111 [.nils,.int .i64 40,.mp 1]),(1,.mpc [] [])]=
 bif decide(0<=rd/\rd < 256 ^ 8/\((8:Nat):Int)<=40/\(40:Int)<=65536)then(bif decide(18=18/\0<=(IntKind.u64.wrap tag)/\(IntKind.u64.wrap tag) < 256 ^ 4/\((18+4:Nat):Int)<=40/\(40:Int)<=65536)then(bif decide(22=22/\0<=(IntKind.u64.wrap lab)/\(IntKind.u64.wrap lab) < 256 ^ 3/\((22+3:Nat):Int)<=40/\(40:Int)<=65536)then(.ret(.tup []) [(0,some(.cells 111 [.qs 2 1 0 25,.int .i64 40,.mp 1])),(2,some(.seq 5(be rd 8++[.int .u8 e0,.int .u8 e1,.int .u8 e2,.int .u8 e3,.int .u8 e4,.int .u8 e5,.int .u8 e6,.int .u8 e7,.int .u8 e8,.int .u8 e9]++be(IntKind.u64.wrap tag)4++be(IntKind.u64.wrap lab)3)))])else .fail)else .fail)else .fail:=by kernel_rfl
theorem cput_k1:Known Tryz.prog 169(cput_s val1):=(openKnown bOk Tryz.func169 rfl).weak(by
 intro args H v ups h
 obtain⟨n,hok,rfl,rfl,rfl,rfl⟩:=cput_case h
 obtain⟨kind,rd,e0,e1,e2,e3,e4,e5,e6,e7,e8,e9,tag,mac,ip,hip,pip,plen,gw,lab,lab2⟩:=n
 obtain⟨rd0,rd1,tag0,tag1,mac0,mac1,ip0,ip1,pip0,pip1,pl0,pl1,gw0,gw1,lab0,lab1,lac0,lac1⟩:=hok
 simp only at rd0 rd1 tag0 tag1 mac0 mac1 ip0 ip1 pip0 pip1 pl0 pl1 gw0 gw1 lab0 lab1 lac0 lac1
 rw[cput_t1]
 have w1:=wu_id tag0(by omega)
 have w2:=wu_id ip0(by omega)
 have w3:=wu_id pip0(by omega)
 have w4:=wu_id pl0(by omega)
 have w5:=wu_id gw0(by omega)
 have w6:=wu_id lab0(by omega)
 have w7:=wu_id lac0(by omega)
 rw[dT0(by omega),dT0(by omega),dT0(by omega)]
 simp only[w1,w2,w3,w4,w5,w6,w7]
 rfl)
theorem cput_t2(kind rd e0 e1 e2 e3 e4 e5 e6 e7 e8 e9 tag mac ip:Int)(hip:Bool)(pip plen gw lab lab2:Int):opn κb Tryz.f174 [.agg [],.ptr 0 0,Nl.v⟨kind,rd,e0,e1,e2,e3,e4,e5,e6,e7,e8,e9,tag,mac,ip,hip,pip,plen,gw,lab,lab2⟩] [(0,.cells 111 [.nils,.int .i64 40,.mp 1]),(1,.mpc [] [])]=
 bif decide(0<=rd/\rd < 256 ^ 8/\((8:Nat):Int)<=40/\(40:Int)<=65536)then(bif decide(18=18/\0<=(IntKind.u64.wrap tag)/\(IntKind.u64.wrap tag) < 256 ^ 4/\((18+4:Nat):Int)<=40/\(40:Int)<=65536)then(bif decide(23=23/\0<=mac/\mac < 256 ^ 6/\((23+6:Nat):Int)<=40/\(40:Int)<=65536)then(bif hip then(bif decide(30=30/\0<=(IntKind.u64.wrap ip)/\(IntKind.u64.wrap ip) < 256 ^ 4/\((30+4:Nat):Int)<=40/\(40:Int)<=65536)then(bif decide(34=34/\0<=(IntKind.u64.wrap lab)/\(IntKind.u64.wrap lab) < 256 ^ 3/\((34+3:Nat):Int)<=40/\(40:Int)<=65536)then(bif lab2!=0 then(bif decide(37=37/\0<=(IntKind.u64.wrap lab2)/\(IntKind.u64.wrap lab2) < 256 ^ 3/\((37+3:Nat):Int)<=40/\(40:Int)<=65536)then(.ret(.tup []) [(0,some(.cells 111 [.qs 2 1 0 40,.int .i64 40,.mp 1])),(2,some(.seq 5(be rd 8++[.int .u8 e0,.int .u8 e1,.int .u8 e2,.int .u8 e3,.int .u8 e4,.int .u8 e5,.int .u8 e6,.int .u8 e7,.int .u8 e8,.int .u8 e9]++be(IntKind.u64.wrap tag)4++be 48 1++be mac 6++be 32 1++be(IntKind.u64.wrap ip)4++be(IntKind.u64.wrap lab)3++be(IntKind.u64.wrap lab2)3)))])else .fail)else .ret(.tup []) [(0,some(.cells 111 [.qs 2 1 0 37,.int .i64 40,.mp 1])),(2,some(.seq 5(be rd 8++[.int .u8 e0,.int .u8 e1,.int .u8 e2,.int .u8 e3,.int .u8 e4,.int .u8 e5,.int .u8 e6,.int .u8 e7,.int .u8 e8,.int .u8 e9]++be(IntKind.u64.wrap tag)4++be 48 1++be mac 6++be 32 1++be(IntKind.u64.wrap ip)4++be(IntKind.u64.wrap lab)3)))])else .fail)else .fail)else(bif decide(30=30/\0<=(IntKind.u64.wrap lab)/\(IntKind.u64.wrap lab) < 256 ^ 3/\((30+3:Nat):Int)<=40/\(40:Int)<=65536)then(bif lab2!=0 then(bif decide(33=33/\0<=(IntKind.u64.wrap lab2)/\(IntKind.u64.wrap lab2) < 256 ^ 3/\((33+3:Nat):Int)<=40/\(40:Int)<=65536)then(.ret(.tup []) [(0,some(.cells 111 [.qs 2 1 0 36,.int .i64 40,.mp 1])),(2,some(.seq 5(be rd 8++[.int .u8 e0,.int .u8 e1,.int .u8 e2,.int .u8 e3,.int .u8 e4,.int .u8 e5,.int .u8 e6,.int .u8 e7,.int .u8 e8,.int .u8 e9]++be(IntKind.u64.wrap tag)4++be 48 1++be mac 6++be 0 1++be(IntKind.u64.wrap lab)3++be(IntKind.u64.wrap lab2)3)))])else .fail)else .ret(.tup []) [(0,some(.cells 111 [.qs 2 1 0 33,.int .i64 40,.mp 1])),(2,some(.seq 5(be rd 8++[.int .u8 e0,.int .u8 e1,.int .u8 e2,.int .u8 e3,.int .u8 e4,.int .u8 e5,.int .u8 e6,.int .u8 e7,.int .u8 e8,.int .u8 e9]++be(IntKind.u64.wrap tag)4++be 48 1++be mac 6++be 0 1++be(IntKind.u64.wrap lab)3)))])else .fail))else .fail)else .fail)else .fail:=by kernel_rfl
theorem cput_k2:Known Tryz.prog 174(cput_s val2):=(openKnown bOk Tryz.func174 rfl).weak(by
 intro args H v ups h
 obtain⟨n,hok,rfl,rfl,rfl,rfl⟩:=cput_case h
 obtain⟨kind,rd,e0,e1,e2,e3,e4,e5,e6,e7,e8,e9,tag,mac,ip,hip,pip,plen,gw,lab,lab2⟩:=n
 obtain⟨rd0,rd1,tag0,tag1,mac0,mac1,ip0,ip1,pip0,pip1,pl0,pl1,gw0,gw1,lab0,lab1,lac0,lac1⟩:=hok
 simp only at rd0 rd1 tag0 tag1 mac0 mac1 ip0 ip1 pip0 pip1 pl0 pl1 gw0 gw1 lab0 lab1 lac0 lac1
 rw[cput_t2]
 have w1:=wu_id tag0(by omega)
 have w2:=wu_id ip0(by omega)
 have w3:=wu_id pip0(by omega)
 have w4:=wu_id pl0(by omega)
 have w5:=wu_id gw0(by omega)
 have w6:=wu_id lab0(by omega)
 have w7:=wu_id lac0(by omega)
 rw[dT0(by omega),dT0(by omega),dT0(by omega)]
 cases hip with
 | true=>
  rw[cT,cT,cT,cT]
  rw[dT0(by omega),dT0(by omega)]
  cases hl:(lab2!=0)with
  | true=>rw[cT,cT,cT,dT0(by omega)];simp only[val2,hl,w1,w2,w3,w4,w5,w6,w7];rfl
  | false=>simp only[val2,hl,w1,w2,w3,w4,w5,w6,w7];rfl
 | false=>
  rw[cT,cT,cT,cF]
  rw[dT0(by omega)]
  cases hl:(lab2!=0)with
  | true=>rw[cT,cT,dT0(by omega)];simp only[val2,hl,w1,w2,w3,w4,w5,w6,w7];rfl
  | false=>simp only[val2,hl,w1,w2,w3,w4,w5,w6,w7];rfl)
theorem cput_t3(kind rd e0 e1 e2 e3 e4 e5 e6 e7 e8 e9 tag mac ip:Int)(hip:Bool)(pip plen gw lab lab2:Int):opn κb Tryz.f180 [.agg [],.ptr 0 0,Nl.v⟨kind,rd,e0,e1,e2,e3,e4,e5,e6,e7,e8,e9,tag,mac,ip,hip,pip,plen,gw,lab,lab2⟩] [(0,.cells 111 [.nils,.int .i64 40,.mp 1]),(1,.mpc [] [])]=
 bif decide(0<=rd/\rd < 256 ^ 8/\((8:Nat):Int)<=40/\(40:Int)<=65536)then(bif decide(8=8/\0<=(IntKind.u64.wrap tag)/\(IntKind.u64.wrap tag) < 256 ^ 4/\((8+4:Nat):Int)<=40/\(40:Int)<=65536)then(bif decide(13=13/\0<=(IntKind.u64.wrap ip)/\(IntKind.u64.wrap ip) < 256 ^ 4/\((13+4:Nat):Int)<=40/\(40:Int)<=65536)then(.ret(.tup []) [(0,some(.cells 111 [.qs 2 1 0 17,.int .i64 40,.mp 1])),(2,some(.seq 5(be rd 8++be(IntKind.u64.wrap tag)4++be 32 1++be(IntKind.u64.wrap ip)4)))])else .fail)else .fail)else .fail:=by kernel_rfl
theorem cput_k3:Known Tryz.prog 180(cput_s val3):=(openKnown bOk Tryz.func180 rfl).weak(by
 intro args H v ups h
 obtain⟨n,hok,rfl,rfl,rfl,rfl⟩:=cput_case h
 obtain⟨kind,rd,e0,e1,e2,e3,e4,e5,e6,e7,e8,e9,tag,mac,ip,hip,pip,plen,gw,lab,lab2⟩:=n
 obtain⟨rd0,rd1,tag0,tag1,mac0,mac1,ip0,ip1,pip0,pip1,pl0,pl1,gw0,gw1,lab0,lab1,lac0,lac1⟩:=hok
 simp only at rd0 rd1 tag0 tag1 mac0 mac1 ip0 ip1 pip0 pip1 pl0 pl1 gw0 gw1 lab0 lab1 lac0 lac1
 rw[cput_t3]
 have w1:=wu_id tag0(by omega)
 have w2:=wu_id ip0(by omega)
 have w3:=wu_id pip0(by omega)
 have w4:=wu_id pl0(by omega)
 have w5:=wu_id gw0(by omega)
 have w6:=wu_id lab0(by omega)
 have w7:=wu_id lac0(by omega)
 rw[dT0(by omega),dT0(by omega),dT0(by omega)]
 simp only[w1,w2,w3,w4,w5,w6,w7]
 rfl)
theorem cput_t4(kind rd e0 e1 e2 e3 e4 e5 e6 e7 e8 e9 tag mac ip:Int)(hip:Bool)(pip plen gw lab lab2:Int):opn κb Tryz.f182 [.agg [],.ptr 0 0,Nl.v⟨kind,rd,e0,e1,e2,e3,e4,e5,e6,e7,e8,e9,tag,mac,ip,hip,pip,plen,gw,lab,lab2⟩] [(0,.cells 111 [.nils,.int .i64 40,.mp 1]),(1,.mpc [] [])]=
 bif decide(0<=rd/\rd < 256 ^ 8/\((8:Nat):Int)<=40/\(40:Int)<=65536)then(bif decide(19=19/\0<=(IntKind.u64.wrap ip)/\(IntKind.u64.wrap ip) < 256 ^ 4/\((19+4:Nat):Int)<=40/\(40:Int)<=65536)then(.ret(.tup []) [(0,some(.cells 111 [.qs 2 1 0 23,.int .i64 40,.mp 1])),(2,some(.seq 5(be rd 8++[.int .u8 e0,.int .u8 e1,.int .u8 e2,.int .u8 e3,.int .u8 e4,.int .u8 e5,.int .u8 e6,.int .u8 e7,.int .u8 e8,.int .u8 e9]++be 32 1++be(IntKind.u64.wrap ip)4)))])else .fail)else .fail:=by kernel_rfl
theorem cput_k4:Known Tryz.prog 182(cput_s val4):=(openKnown bOk Tryz.func182 rfl).weak(by
 intro args H v ups h
 obtain⟨n,hok,rfl,rfl,rfl,rfl⟩:=cput_case h
 obtain⟨kind,rd,e0,e1,e2,e3,e4,e5,e6,e7,e8,e9,tag,mac,ip,hip,pip,plen,gw,lab,lab2⟩:=n
 obtain⟨rd0,rd1,tag0,tag1,mac0,mac1,ip0,ip1,pip0,pip1,pl0,pl1,gw0,gw1,lab0,lab1,lac0,lac1⟩:=hok
 simp only at rd0 rd1 tag0 tag1 mac0 mac1 ip0 ip1 pip0 pip1 pl0 pl1 gw0 gw1 lab0 lab1 lac0 lac1
 rw[cput_t4]
 have w1:=wu_id tag0(by omega)
 have w2:=wu_id ip0(by omega)
 have w3:=wu_id pip0(by omega)
 have w4:=wu_id pl0(by omega)
 have w5:=wu_id gw0(by omega)
 have w6:=wu_id lab0(by omega)
 have w7:=wu_id lac0(by omega)
 rw[dT0(by omega),dT0(by omega)]
 simp only[w1,w2,w3,w4,w5,w6,w7]
 rfl)
theorem cput_t5(kind rd e0 e1 e2 e3 e4 e5 e6 e7 e8 e9 tag mac ip:Int)(hip:Bool)(pip plen gw lab lab2:Int):opn κb Tryz.f184 [.agg [],.ptr 0 0,Nl.v⟨kind,rd,e0,e1,e2,e3,e4,e5,e6,e7,e8,e9,tag,mac,ip,hip,pip,plen,gw,lab,lab2⟩] [(0,.cells 111 [.nils,.int .i64 40,.mp 1]),(1,.mpc [] [])]=
 bif decide(0<=rd/\rd < 256 ^ 8/\((8:Nat):Int)<=40/\(40:Int)<=65536)then(bif decide(18=18/\0<=(IntKind.u64.wrap tag)/\(IntKind.u64.wrap tag) < 256 ^ 4/\((18+4:Nat):Int)<=40/\(40:Int)<=65536)then(bif decide(22=22/\0<=(IntKind.u64.wrap plen)/\(IntKind.u64.wrap plen) < 256 ^ 1/\((22+1:Nat):Int)<=40/\(40:Int)<=65536)then(bif decide(23=23/\0<=(IntKind.u64.wrap pip)/\(IntKind.u64.wrap pip) < 256 ^ 4/\((23+4:Nat):Int)<=40/\(40:Int)<=65536)then(bif decide(27=27/\0<=(IntKind.u64.wrap gw)/\(IntKind.u64.wrap gw) < 256 ^ 4/\((27+4:Nat):Int)<=40/\(40:Int)<=65536)then(bif decide(31=31/\0<=(IntKind.u64.wrap lab)/\(IntKind.u64.wrap lab) < 256 ^ 3/\((31+3:Nat):Int)<=40/\(40:Int)<=65536)then(.ret(.tup []) [(0,some(.cells 111 [.qs 2 1 0 34,.int .i64 40,.mp 1])),(2,some(.seq 5(be rd 8++[.int .u8 e0,.int .u8 e1,.int .u8 e2,.int .u8 e3,.int .u8 e4,.int .u8 e5,.int .u8 e6,.int .u8 e7,.int .u8 e8,.int .u8 e9]++be(IntKind.u64.wrap tag)4++be(IntKind.u64.wrap plen)1++be(IntKind.u64.wrap pip)4++be(IntKind.u64.wrap gw)4++be(IntKind.u64.wrap lab)3)))])else .fail)else .fail)else .fail)else .fail)else .fail)else .fail:=by kernel_rfl
theorem cput_k5:Known Tryz.prog 184(cput_s val5):=(openKnown bOk Tryz.func184 rfl).weak(by
 intro args H v ups h
 obtain⟨n,hok,rfl,rfl,rfl,rfl⟩:=cput_case h
 obtain⟨kind,rd,e0,e1,e2,e3,e4,e5,e6,e7,e8,e9,tag,mac,ip,hip,pip,plen,gw,lab,lab2⟩:=n
 obtain⟨rd0,rd1,tag0,tag1,mac0,mac1,ip0,ip1,pip0,pip1,pl0,pl1,gw0,gw1,lab0,lab1,lac0,lac1⟩:=hok
 simp only at rd0 rd1 tag0 tag1 mac0 mac1 ip0 ip1 pip0 pip1 pl0 pl1 gw0 gw1 lab0 lab1 lac0 lac1
 rw[cput_t5]
 have w1:=wu_id tag0(by omega)
 have w2:=wu_id ip0(by omega)
 have w3:=wu_id pip0(by omega)
 have w4:=wu_id pl0(by omega)
 have w5:=wu_id gw0(by omega)
 have w6:=wu_id lab0(by omega)
 have w7:=wu_id lac0(by omega)
 rw[dT0(by omega),dT0(by omega),dT0(by omega),dT0(by omega),dT0(by omega),dT0(by omega)]
 simp only[w1,w2,w3,w4,w5,w6,w7]
 rfl)
noncomputable abbrev κc:=tbl [(82,check_s),(169,cput_s val1),(174,cput_s val2),(180,cput_s val3),(182,cput_s val4),(184,cput_s val5),(28,out_s)]
theorem cOk:KOk Tryz.prog κc:=tbl_cons ncheck_k(tbl_cons cput_k1(tbl_cons cput_k2(tbl_cons cput_k3(tbl_cons cput_k4(tbl_cons cput_k5(tbl_cons out_k ok0))))))
def encL(val:Nl->List SV)(n:Nl):List SV:=[.int .u8(IntKind.u8.wrap n.kind),.int .u8(IntKind.u8.wrap((val n).length:Int))]++val n
noncomputable def encT(val:Nl->List SV)(n:Nl):CTree:=
 bif decide((40:Int)=40/\OkP n)then bif decide((val n).length=(val n).length/\(val n).length<=65536)then
  (bif decide((val n).length=(val n).length)then
   (bif decide(2+(val n).length<=9223372036854775807)&&decide((2+(val n).length) * 1<=140737488355328)then .ret(.qs 0 1 0(2+(val n).length)) [(0,some(.seq 5(encL val n)))]else .fail)
   else bif decide(0+(val n).length<=(val n).length)then
    (bif decide(2+(((val n).drop 0).take(val n).length).length<=9223372036854775807)&&decide((2+(((val n).drop 0).take(val n).length).length) * 1<=140737488355328)then .ret(.qs 0 1 0(2+(((val n).drop 0).take(val n).length).length)) [(0,some(.seq 5([.int .u8(IntKind.u8.wrap n.kind),.int .u8(IntKind.u8.wrap((val n).length:Int))]++(((val n).drop 0).take(val n).length))))]else .fail)else .fail)
  else .fail else .fail
theorem val_len(n:Nl):(val1 n).length<=40/\(val2 n).length<=40/\(val3 n).length<=40/\(val4 n).length<=40/\(val5 n).length<=40:=by
 refine⟨by simp[val1,be_len],?_,by simp[val3,be_len],by simp[val4,be_len],by simp[val5,be_len]⟩
 cases h:n.hip <;> cases h2:(n.lab2!=0) <;> simp[val2,be_len,h,h2]
theorem encT_ok{val:Nl->List SV}{n:Nl}(hl:(val n).length<=40)(hok:OkP n):crun(encT val n)=some(.qs 0 1 0(encL val n).length,[(0,some(.seq 5(encL val n)))]):=by
 unfold encT
 rw[dT0(show(40:Int)=40/\OkP n from⟨rfl,hok⟩),dT0(show _/\(val n).length<=65536 from⟨rfl,by omega⟩),dT0 rfl,dT0(by omega),dT0(by omega)]
 simp[crun,encL,Nat.add_comm];omega
theorem enc_t1(kind rd e0 e1 e2 e3 e4 e5 e6 e7 e8 e9 tag mac ip:Int)(hip:Bool)(pip plen gw lab lab2:Int):opn κc Tryz.f106 [Nl.v⟨kind,rd,e0,e1,e2,e3,e4,e5,e6,e7,e8,e9,tag,mac,ip,hip,pip,plen,gw,lab,lab2⟩,.iface 215(.agg [])] []=encT val1⟨kind,rd,e0,e1,e2,e3,e4,e5,e6,e7,e8,e9,tag,mac,ip,hip,pip,plen,gw,lab,lab2⟩:=by kernel_rfl
theorem enc_t2(kind rd e0 e1 e2 e3 e4 e5 e6 e7 e8 e9 tag mac ip:Int)(hip:Bool)(pip plen gw lab lab2:Int):opn κc Tryz.f106 [Nl.v⟨kind,rd,e0,e1,e2,e3,e4,e5,e6,e7,e8,e9,tag,mac,ip,hip,pip,plen,gw,lab,lab2⟩,.iface 216(.agg [])] []=encT val2⟨kind,rd,e0,e1,e2,e3,e4,e5,e6,e7,e8,e9,tag,mac,ip,hip,pip,plen,gw,lab,lab2⟩:=by kernel_rfl
theorem enc_t3(kind rd e0 e1 e2 e3 e4 e5 e6 e7 e8 e9 tag mac ip:Int)(hip:Bool)(pip plen gw lab lab2:Int):opn κc Tryz.f106 [Nl.v⟨kind,rd,e0,e1,e2,e3,e4,e5,e6,e7,e8,e9,tag,mac,ip,hip,pip,plen,gw,lab,lab2⟩,.iface 217(.agg [])] []=encT val3⟨kind,rd,e0,e1,e2,e3,e4,e5,e6,e7,e8,e9,tag,mac,ip,hip,pip,plen,gw,lab,lab2⟩:=by kernel_rfl
theorem enc_t4(kind rd e0 e1 e2 e3 e4 e5 e6 e7 e8 e9 tag mac ip:Int)(hip:Bool)(pip plen gw lab lab2:Int):opn κc Tryz.f106 [Nl.v⟨kind,rd,e0,e1,e2,e3,e4,e5,e6,e7,e8,e9,tag,mac,ip,hip,pip,plen,gw,lab,lab2⟩,.iface 218(.agg [])] []=encT val4⟨kind,rd,e0,e1,e2,e3,e4,e5,e6,e7,e8,e9,tag,mac,ip,hip,pip,plen,gw,lab,lab2⟩:=by kernel_rfl
theorem enc_t5(kind rd e0 e1 e2 e3 e4 e5 e6 e7 e8 e9 tag mac ip:Int)(hip:Bool)(pip plen gw lab lab2:Int):opn κc Tryz.f106 [Nl.v⟨kind,rd,e0,e1,e2,e3,e4,e5,e6,e7,e8,e9,tag,mac,ip,hip,pip,plen,gw,lab,lab2⟩,.iface 219(.agg [])] []=encT val5⟨kind,rd,e0,e1,e2,e3,e4,e5,e6,e7,e8,e9,tag,mac,ip,hip,pip,plen,gw,lab,lab2⟩:=by kernel_rfl
def valOf(t:Nat):Option(Nl->List SV):=bif Nat.beq t 215 then some val1 else bif Nat.beq t 216 then some val2 else bif Nat.beq t 217 then some val3 else bif Nat.beq t 218 then some val4 else bif Nat.beq t 219 then some val5 else none
noncomputable def encode_s:CSumm:=fun args H=>match args,H with
 | [x,.iface t(.agg [])],[]=>match nlOf x,valOf t with
  | some n,some val=>.ite(decide(OkP n))(.ret(.qs 0 1 0(encL val n).length) [(0,some(.seq 5(encL val n)))]) .fail
  | _,_=>.fail
 | _,_=>.fail
theorem encode_k:Known Tryz.prog 106 encode_s:=(openKnown cOk Tryz.func106 rfl).weak(by
 intro args H v ups h
 unfold encode_s at h
 split at h
 . rename_i x t
   split at h
   . rename_i n val hn hv
     rw[crun_ite,cond_eq_ite]at h
     split at h
     . rename_i hc
       have hok:OkP n:=by simpa using hc
       rw[nlOf_v hn]
       obtain⟨kind,rd,e0,e1,e2,e3,e4,e5,e6,e7,e8,e9,tag,mac,ip,hip,pip,plen,gw,lab,lab2⟩:=n
       obtain⟨l1,l2,l3,l4,l5⟩:=val_len⟨kind,rd,e0,e1,e2,e3,e4,e5,e6,e7,e8,e9,tag,mac,ip,hip,pip,plen,gw,lab,lab2⟩
       unfold valOf at hv
       cases h1:Nat.beq t 215 with
       | true=>rw[h1]at hv;cases hv;cases nE h1;rw[enc_t1,encT_ok l1 hok];exact h
       | false=>
       cases h2:Nat.beq t 216 with
       | true=>rw[h1,h2]at hv;cases hv;cases nE h2;rw[enc_t2,encT_ok l2 hok];exact h
       | false=>
       cases h3:Nat.beq t 217 with
       | true=>rw[h1,h2,h3]at hv;cases hv;cases nE h3;rw[enc_t3,encT_ok l3 hok];exact h
       | false=>
       cases h4:Nat.beq t 218 with
       | true=>rw[h1,h2,h3,h4]at hv;cases hv;cases nE h4;rw[enc_t4,encT_ok l4 hok];exact h
       | false=>
       cases h5:Nat.beq t 219 with
       | true=>rw[h1,h2,h3,h4,h5]at hv;cases hv;cases nE h5;rw[enc_t5,encT_ok l5 hok];exact h
       | false=>rw[h1,h2,h3,h4,h5]at hv;cases hv
     . cases h
   . cases h
 . cases h)
def nb(n:Nl):List SV:=bif n.kind==1 then encL val1 n else bif n.kind==2 then encL val2 n else bif n.kind==3 then encL val3 n else bif n.kind==4 then encL val4 n else encL val5 n
noncomputable def nbytes_s:CSumm:=fun args H=>match args,H with
 | [x],[]=>match nlOf x with
  | some n=>.ite(decide(chk n=0/\OkP n))(.ret(.tup [.qs 0 1 0(nb n).length,.int .i64 0]) [(0,some(.seq 5(nb n)))]) .fail
  | none=>.fail
 | _,_=>.fail
theorem nbytes_case{args:List SV}{H:HpL}{v:SV}{ups:List(Nat × Option Chunk)}(h:crun(nbytes_s args H)=some(v,ups)):
  ∃ n:Nl,chk n=0/\OkP n/\args=[n.v]/\H=[]/\v= .tup [.qs 0 1 0(nb n).length,.int .i64 0]/\ups=[(0,some(.seq 5(nb n)))]:=by
 unfold nbytes_s at h
 split at h
 . rename_i x
   split at h
   . rename_i n hn
     rw[crun_ite,cond_eq_ite]at h
     split at h
     . rename_i hc
       have hc2:chk n=0/\OkP n:=by simpa using hc
       cases h
       exact⟨n,hc2.1,hc2.2,by rw[nlOf_v hn],rfl,rfl,rfl⟩
     . cases h
   . cases h
 . cases h
theorem chk_kind{n:Nl}(h:chk n=0):n.kind=1\/n.kind=2\/n.kind=3\/n.kind=4\/n.kind=5:=by
 by_cases hk:1<=n.kind/\n.kind<=5
 . omega
 . exfalso
   have hc:(decide(n.kind < 1)||decide(n.kind > 5))=true:=by
    simp only[Bool.or_eq_true,decide_eq_true_eq];omega
   unfold chk at h
   rw[hc]at h
   cases h
theorem rbyte(n:Int)(k:Nat):IntKind.u8.wrap(n.fdiv(256 ^ k))=n / 256 ^ k % 256:=by
 rw[w8_eq,Int.fdiv_eq_ediv_of_nonneg _(Int.pow_nonneg(by decide))]
def lenOk(k:Nat):Bool:=decide(k<=9223372036854775807)&&decide(k * 1<=140737488355328)
theorem lenOk_t{k:Nat}(h:k<=1000000):lenOk k=true:=by
 unfold lenOk
 rw[dT0(by omega),dT0(by omega)];rfl
def putR(n:Int)(nw:Nat)(ups:List(Nat × Option Chunk)):Nat->Nat->List SV->CTree
 | 0,m,es=>.ret(.qs nw 1 0 m)(ups++[(nw,some(.seq 5 es))])
 | k+1,m,es=>bif decide(m=es.length)then bif lenOk(es.length+1)then putR n nw ups k(es.length+1)(es++[.int .u8(IntKind.u8.wrap(n.fdiv(256 ^ k)))])else .fail else .fail
theorem putR_ok(n:Int)(nw:Nat)(ups:List(Nat × Option Chunk)):∀ (k:Nat)(es:List SV),es.length+k<=1000000->putR n nw ups k es.length es= .ret(.qs nw 1 0(es.length+k))(ups++[(nw,some(.seq 5(es++be n k)))])
 | 0,es,_=>by simp[putR,be]
 | k+1,es,h=>by
  rw[putR,dT0 rfl,lenOk_t(by omega),rbyte]
  have:=putR_ok n nw ups k(es++[.int .u8(n / 256 ^ k % 256)])(by simp;omega)
  rw[lA0]at this
  rw[cT,cT]
  refine this.trans ?_
  simp[be,Nat.add_assoc,Nat.add_comm 1 k]
theorem p4_a2(n:Int):opn(tbl [])Tryz.f143 [.nils,.int .u64 n,.int .i64 2] []=putR n 0 []2 0 []:=by kernel_rfl
theorem p4_b2(n:Int)(m:Nat)(es:List SV):opn(tbl [])Tryz.f143 [.qs 0 1 0 m,.int .u64 n,.int .i64 2] [(0,.seq 5 es)]=putR n 1 [(0,none)]2 m es:=by kernel_rfl
theorem p4_c2(n a b:Int):opn(tbl [])Tryz.f143 [.sl 0 1 0 2,.int .u64 n,.int .i64 2] [(0,.cells 5 [.int .u8 a,.int .u8 b])]=putR n 1 [(0,none)]2 2 [.int .u8 a,.int .u8 b]:=by kernel_rfl
theorem p4_a3(n:Int):opn(tbl [])Tryz.f143 [.nils,.int .u64 n,.int .i64 3] []=putR n 0 []3 0 []:=by kernel_rfl
theorem p4_b3(n:Int)(m:Nat)(es:List SV):opn(tbl [])Tryz.f143 [.qs 0 1 0 m,.int .u64 n,.int .i64 3] [(0,.seq 5 es)]=putR n 1 [(0,none)]3 m es:=by kernel_rfl
theorem p4_c3(n a b:Int):opn(tbl [])Tryz.f143 [.sl 0 1 0 2,.int .u64 n,.int .i64 3] [(0,.cells 5 [.int .u8 a,.int .u8 b])]=putR n 1 [(0,none)]3 2 [.int .u8 a,.int .u8 b]:=by kernel_rfl
theorem p4_a4(n:Int):opn(tbl [])Tryz.f143 [.nils,.int .u64 n,.int .i64 4] []=putR n 0 []4 0 []:=by kernel_rfl
theorem p4_b4(n:Int)(m:Nat)(es:List SV):opn(tbl [])Tryz.f143 [.qs 0 1 0 m,.int .u64 n,.int .i64 4] [(0,.seq 5 es)]=putR n 1 [(0,none)]4 m es:=by kernel_rfl
theorem p4_c4(n a b:Int):opn(tbl [])Tryz.f143 [.sl 0 1 0 2,.int .u64 n,.int .i64 4] [(0,.cells 5 [.int .u8 a,.int .u8 b])]=putR n 1 [(0,none)]4 2 [.int .u8 a,.int .u8 b]:=by kernel_rfl
theorem p4_a6(n:Int):opn(tbl [])Tryz.f143 [.nils,.int .u64 n,.int .i64 6] []=putR n 0 []6 0 []:=by kernel_rfl
theorem p4_b6(n:Int)(m:Nat)(es:List SV):opn(tbl [])Tryz.f143 [.qs 0 1 0 m,.int .u64 n,.int .i64 6] [(0,.seq 5 es)]=putR n 1 [(0,none)]6 m es:=by kernel_rfl
theorem p4_c6(n a b:Int):opn(tbl [])Tryz.f143 [.sl 0 1 0 2,.int .u64 n,.int .i64 6] [(0,.cells 5 [.int .u8 a,.int .u8 b])]=putR n 1 [(0,none)]6 2 [.int .u8 a,.int .u8 b]:=by kernel_rfl
theorem p4_a8(n:Int):opn(tbl [])Tryz.f143 [.nils,.int .u64 n,.int .i64 8] []=putR n 0 []8 0 []:=by kernel_rfl
theorem p4_b8(n:Int)(m:Nat)(es:List SV):opn(tbl [])Tryz.f143 [.qs 0 1 0 m,.int .u64 n,.int .i64 8] [(0,.seq 5 es)]=putR n 1 [(0,none)]8 m es:=by kernel_rfl
theorem p4_c8(n a b:Int):opn(tbl [])Tryz.f143 [.sl 0 1 0 2,.int .u64 n,.int .i64 8] [(0,.cells 5 [.int .u8 a,.int .u8 b])]=putR n 1 [(0,none)]8 2 [.int .u8 a,.int .u8 b]:=by kernel_rfl
def rputT(n:Int)(k:Nat)(x:SV)(H:HpL):CTree:=match x,H with
 | .nils,[]=>.ret(.qs 0 1 0 k) [(0,some(.seq 5(be n k)))]
 | .qs 0 1 0 m,[(0,.seq 5 es)]=>.ite(decide(m=es.length/\es.length<=100000))(.ret(.qs 1 1 0(es.length+k)) [(0,none),(1,some(.seq 5(es++be n k)))]) .fail
 | .sl 0 1 0 2,[(0,.cells 5 [.int .u8 a,.int .u8 b])]=>.ret(.qs 1 1 0(2+k)) [(0,none),(1,some(.seq 5([.int .u8 a,.int .u8 b]++be n k)))]
 | _,_=>.fail
def rput_s:CSumm:=fun args H=>match args with
 | [x,.int .u64 n,.int .i64 k]=>.ite(k==2||k==3||k==4||k==6||k==8)(rputT n k.toNat x H) .fail
 | _=>.fail
theorem p4_ok2{n:Int}{x:SV}{H:HpL}{v:SV}{ups:List(Nat × Option Chunk)}(h:crun(rputT n 2 x H)=some(v,ups)):crun(opn(tbl [])Tryz.f143 [x,.int .u64 n,.int .i64 2]H)=some(v,ups):=by
 unfold rputT at h
 split at h
 . rw[p4_a2];rw[<- h];have:=putR_ok n 0 []2 [] (by simp);simp only[List.length_nil,nA,Nat.zero_add]at this;rw[this]
 . rename_i m es
   rw[crun_ite,cond_eq_ite]at h
   split at h
   . rename_i hc
     obtain⟨rfl,h2⟩:=of_decide_eq_true hc
     rw[p4_b2,putR_ok n 1 _ 2 es(by omega)];exact h
   . cases h
 . rename_i a b
   rw[p4_c2];rw[<- h];exact congrArg crun(putR_ok n 1 [(0,none)]2 [.int .u8 a,.int .u8 b] (by simp))
 . cases h
theorem p4_ok3{n:Int}{x:SV}{H:HpL}{v:SV}{ups:List(Nat × Option Chunk)}(h:crun(rputT n 3 x H)=some(v,ups)):crun(opn(tbl [])Tryz.f143 [x,.int .u64 n,.int .i64 3]H)=some(v,ups):=by
 unfold rputT at h
 split at h
 . rw[p4_a3];rw[<- h];have:=putR_ok n 0 []3 [] (by simp);simp only[List.length_nil,nA,Nat.zero_add]at this;rw[this]
 . rename_i m es
   rw[crun_ite,cond_eq_ite]at h
   split at h
   . rename_i hc
     obtain⟨rfl,h2⟩:=of_decide_eq_true hc
     rw[p4_b3,putR_ok n 1 _ 3 es(by omega)];exact h
   . cases h
 . rename_i a b
   rw[p4_c3];rw[<- h];exact congrArg crun(putR_ok n 1 [(0,none)]3 [.int .u8 a,.int .u8 b] (by simp))
 . cases h
theorem p4_ok4{n:Int}{x:SV}{H:HpL}{v:SV}{ups:List(Nat × Option Chunk)}(h:crun(rputT n 4 x H)=some(v,ups)):crun(opn(tbl [])Tryz.f143 [x,.int .u64 n,.int .i64 4]H)=some(v,ups):=by
 unfold rputT at h
 split at h
 . rw[p4_a4];rw[<- h];have:=putR_ok n 0 []4 [] (by simp);simp only[List.length_nil,nA,Nat.zero_add]at this;rw[this]
 . rename_i m es
   rw[crun_ite,cond_eq_ite]at h
   split at h
   . rename_i hc
     obtain⟨rfl,h2⟩:=of_decide_eq_true hc
     rw[p4_b4,putR_ok n 1 _ 4 es(by omega)];exact h
   . cases h
 . rename_i a b
   rw[p4_c4];rw[<- h];exact congrArg crun(putR_ok n 1 [(0,none)]4 [.int .u8 a,.int .u8 b] (by simp))
 . cases h
theorem p4_ok6{n:Int}{x:SV}{H:HpL}{v:SV}{ups:List(Nat × Option Chunk)}(h:crun(rputT n 6 x H)=some(v,ups)):crun(opn(tbl [])Tryz.f143 [x,.int .u64 n,.int .i64 6]H)=some(v,ups):=by
 unfold rputT at h
 split at h
 . rw[p4_a6];rw[<- h];have:=putR_ok n 0 []6 [] (by simp);simp only[List.length_nil,nA,Nat.zero_add]at this;rw[this]
 . rename_i m es
   rw[crun_ite,cond_eq_ite]at h
   split at h
   . rename_i hc
     obtain⟨rfl,h2⟩:=of_decide_eq_true hc
     rw[p4_b6,putR_ok n 1 _ 6 es(by omega)];exact h
   . cases h
 . rename_i a b
   rw[p4_c6];rw[<- h];exact congrArg crun(putR_ok n 1 [(0,none)]6 [.int .u8 a,.int .u8 b] (by simp))
 . cases h
theorem p4_ok8{n:Int}{x:SV}{H:HpL}{v:SV}{ups:List(Nat × Option Chunk)}(h:crun(rputT n 8 x H)=some(v,ups)):crun(opn(tbl [])Tryz.f143 [x,.int .u64 n,.int .i64 8]H)=some(v,ups):=by
 unfold rputT at h
 split at h
 . rw[p4_a8];rw[<- h];have:=putR_ok n 0 []8 [] (by simp);simp only[List.length_nil,nA,Nat.zero_add]at this;rw[this]
 . rename_i m es
   rw[crun_ite,cond_eq_ite]at h
   split at h
   . rename_i hc
     obtain⟨rfl,h2⟩:=of_decide_eq_true hc
     rw[p4_b8,putR_ok n 1 _ 8 es(by omega)];exact h
   . cases h
 . rename_i a b
   rw[p4_c8];rw[<- h];exact congrArg crun(putR_ok n 1 [(0,none)]8 [.int .u8 a,.int .u8 b] (by simp))
 . cases h
theorem p4_k:Known Tryz.prog 143 rput_s:=(openKnown ok0 Tryz.func143 rfl).weak(by
 intro args H v ups h
 unfold rput_s at h
 split at h
 . rename_i x n k
   rw[crun_ite,cond_eq_ite]at h
   split at h
   . rename_i hc
     simp only[Bool.or_eq_true,beq_iff_eq]at hc
     obtain(((rfl | rfl) | rfl) | rfl) | rfl:=hc
     . exact p4_ok2 h
     . exact p4_ok3 h
     . exact p4_ok4 h
     . exact p4_ok6 h
     . exact p4_ok8 h
   . cases h
 . cases h)
end Go.Proofs.YtnlmhpancboddaaGreat
