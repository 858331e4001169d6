/- What is proved here: a part of the proof of laws of this seat: what a contract is, how it comes of a condition, contracts of the functions that are reached, the plain laws. -/
import Derived.Test.YtgaegoefbekndaaGreatDoorSE6
set_option linter.unusedSimpArgs false
set_option linter.unusedVariables false
set_option maxRecDepth 100000
namespace Go.Vg
open Go Go.Proofs
section
variable {H : Heap} {c : Conf} {fa ra wa : O} {fl fc rl rc wl wc : Nat}
theorem cAgents(hc:CfgAt H c fa fl ra rl wa wl):Spec Tryz.prog 88 [cfgArg c fa fl fc ra rl rc wa wl wc] H fun v _=>v=i64 (agentsOf c.waves):=by
 refine TryzvcJ Tryz.func88 (by kernel_rfl) (by kernel_rfl) _ rfl (fun base K=>vc94 c.first.id c.bud fa ra wa fl fc rl rc wl wc base H K) fun base hb=> ?_
 intro b
 have hl:=hc.waves.len
 have hle:=hc.waves.le
 refine⟨fun vs _=>∃(m:Int)(i:Nat),vs=[i64 m,i64 i]/\i<=wl/\0<=m/\m<=6/\agentsFrom m (c.waves.drop i)=agentsOf c.waves,upTo wl 1,⟨0,0,rfl,by omega,by omega,by omega,rfl⟩,fun n n1 H' hN hI=> ?_⟩
 obtain⟨m,i,hvs,hi,m0,m6,hI⟩:=hI
 obtain⟨rfl,rfl⟩:n=m/\n1=(i:Int):=by simpa using hvs
 refine⟨fun hlt=>hc.waves.slice hN.ext (by omega) hlt fun w a' n' c' hw hs=> ?_,fun hge=> ?_⟩
 ·rw[Int.toNat_natCast] at hw
  rw[drop_at hw,agentsFrom] at hI
  have hwl:=hs.len
  have hmin:(if 7<(n':Int) then 7 else(n':Int))=min 7 (w.length:Int):=by rw[hwl];split<;>omega
  rw[hmin]
  rintro _ rfl
  rw[wrap_in (by omega) (by omega)]
  refine⟨fun h=> ?_,fun h=> ?_⟩
  ·rw[if_pos h] at hI;rw[hI]
  ·rw[if_neg h] at hI
   rintro _ rfl
   rw[wrap_in (by omega) (by omega)]
   exact⟨rfl,⟨_,i+1,rfl,by omega,by omega,by omega,hI⟩,by simp[upTo];omega⟩
 ·rw[drop_all hl (by omega),agentsFrom] at hI;rw[hI]
theorem cConfig(hc:CfgAt H c fa fl ra rl wa wl):Spec Tryz.prog 101 [cfgArg c fa fl fc ra rl rc wa wl wc] H fun v _=>v=i64 (cfgErr c):=by
 refine TryzvcJ Tryz.func101 (by kernel_rfl) (by kernel_rfl) _ rfl (fun base K=>vc95 c.first.id c.bud fa ra wa fl fc rl rc wl wc base H K) fun base hb=> ?_
 intro b
 refine(cNoteRelease hc.pins c.first.id).int1 fun H1 e1 _=>⟨fun h=>by rw[cfgErr,if_pos h],fun h=> ?_⟩
 refine⟨c.first.id≠1∨c.bud<0∨3<c.bud,⟨fun h=>⟨rfl,fun _ _ h=>h,.inl h⟩,fun h=>⟨fun h=>⟨rfl,fun _ _ h=>h,.inr (.inl h)⟩,fun h=>⟨rfl,fun _ _ h=>h,by omega⟩⟩⟩,fun hφ=>by rw[cfgErr,if_neg h,if_pos hφ],fun hφ=> ?_⟩
 refine(cBroken (hc.ext e1).pins (hc.ext e1).rules).int2 fun H2 e2 _=>⟨fun h2=>by rw[cfgErr,if_neg h,if_neg hφ,if_pos h2],fun h2=>⟨fun h3=>by rw[cfgErr,if_neg h,if_neg hφ,if_neg h2,if_pos h3],fun h3=> ?_⟩⟩
 refine(cAgents ((hc.ext e1).ext e2)).int1 fun H3 e3 _=>(cWaveCheck (((hc.ext e1).ext e2).ext e3).waves (agentsOf c.waves)).int1 fun H4 e4 _=> ?_
 rw[cfgErr,if_neg h,if_neg hφ,if_neg h2,if_neg h3]
end
section
variable {H : Heap} {l : Ldr} {la ka : O} {ll lc kl kc : Nat}
theorem thr_at{xs:List Kn}{i:Nat}{a:Kn}(h:xs[i]?=some a):thr (xs.take (i+1))=thr (xs.take i)++[decide (a.st=2∨a.st=3)]:=by
 rw[take_at h];simp[thr]
theorem boolRow{base:Nat}{H:Heap}{e:TypeId}{a:O}{n c:Nat}{xs:List Bool}(h:Row base H e 1 a n c (xs.map Value.bool)):Sl RBool 1 H a n xs:=by
 have hf:∀xs:List Bool,xs.flatMap (fun x:Bool=>[Value.bool x])=xs.map Value.bool:=fun xs=>by induction xs with|nil=>rfl|cons x r ih=>simp[ih]
 exact sl_of_rowE (sz:=1) (enc:=fun x:Bool=>[Value.bool x]) (fun _=>rfl) (by omega) (by rw[hf];exact h)
theorem cThrough(h:LdrAt H l la ll ka kl)(h6:l.ags.length<=6):Spec Tryz.prog 253 [ldrArg l la ll lc ka kl kc] H fun v H'=>∃a n c,v= .slice a n c/\Sl RBool 1 H' a n (thr l.ags):=by
 refine TryzvcJ Tryz.func253 (by kernel_rfl) (by kernel_rfl) _ rfl (fun base K=>vc149 la ka ll lc kl kc l.now l.goal l.nx l.back base H K) fun base hb=> ?_
 intro b
 have hl:=h.ags.len
 refine⟨fun vs Hc=>∃(a:O)(c i:Nat),vs=[.slice a i c,i64 i]/\i<=kl/\Row base Hc 4 1 a i c ((thr (l.ags.take i)).map Value.bool),upTo kl 1,⟨none,0,0,rfl,by omega,Row.nil⟩,fun a n c n1 H' hN hI=> ?_⟩
 obtain⟨a',c',i,hvs,hi,hR⟩:=hI
 obtain⟨⟨rfl,rfl,rfl⟩,rfl⟩:(a=a'/\n=i/\c=c')/\n1=(i:Int):=by simpa using hvs
 refine⟨fun hlt=>h.ags.kn hN.ext (by omega) hlt fun m hm=>fun b2=> ?_,fun hge=> ?_⟩
 ·rw[Int.toNat_natCast] at hm
  refine⟨fun h2 b3=>⟨_,hR,by omega,by omega,fun a2 c2 H2 hG hR2=> ?_⟩,fun h2 b3=>⟨_,hR,by omega,by omega,fun a2 c2 H2 hG hR2=> ?_⟩⟩
  ·rintro _ rfl
   rw[wrap_in (by omega) (by omega)]
   refine⟨rfl,⟨a2,c2,n+1,rfl,by omega,?_⟩,by simp[upTo];omega⟩
   rw[thr_at hm,List.map_append];simpa[h2] using hR2
  ·rintro _ rfl
   rw[wrap_in (by omega) (by omega)]
   refine⟨rfl,⟨a2,c2,n+1,rfl,by omega,?_⟩,by simp[upTo];omega⟩
   rw[thr_at hm,List.map_append];simpa[h2] using hR2
 ·rw[List.take_of_length_le (by omega)] at hR
  exact⟨a,n,c,rfl,boolRow hR⟩
theorem cnt_at{xs:List Kn}{i:Nat}{a:Kn}{k:Int}(h:xs[i]?=some a):cnt k (xs.take (i+1))=cnt k (xs.take i)+if a.st=k then 1 else 0:=by
 rw[take_at h];unfold cnt;rw[List.filter_append];by_cases h2:a.st=k<;>simp[h2]
theorem cnt_range(k:Int)(xs:List Kn):0<=cnt k xs/\cnt k xs<=xs.length:=by
 unfold cnt;have:=List.length_filter_le (fun a:Kn=>decide (a.st=k)) xs;omega
theorem cIll(h:LdrAt H l la ll ka kl):Spec Tryz.prog 254 [ldrArg l la ll lc ka kl kc] H fun v _=>v=i64 (cnt 3 l.ags):=by
 refine TryzvcJ Tryz.func254 (by kernel_rfl) (by kernel_rfl) _ rfl (fun base K=>vc150 la ka ll lc kl kc l.now l.goal l.nx l.back base H K) fun base hb=> ?_
 intro b
 have hl:=h.ags.len
 have hle:=h.ags.le
 refine⟨fun vs Hc=>∃(i:Nat),vs=[i64 (cnt 3 (l.ags.take i)),i64 i]/\i<=kl,upTo kl 1,⟨0,rfl,by omega⟩,fun n n1 H' hN hI=> ?_⟩
 obtain⟨i,hvs,hi⟩:=hI
 obtain⟨rfl,rfl⟩:n=cnt 3 (l.ags.take i)/\n1=(i:Int):=by simpa using hvs
 refine⟨fun hlt=>h.ags.kn hN.ext (by omega) hlt fun m hm=>fun b2=> ?_,fun hge=> ?_⟩
 ·rw[Int.toNat_natCast] at hm
  have hr:=cnt_range 3 (l.ags.take i)
  have hti:(l.ags.take i).length<=i:=by simp;omega
  refine⟨fun h2=> ?_,fun h2=> ?_⟩
  ·rintro _ rfl _ rfl
   rw[wrap_in (by omega) (by omega),wrap_in (by omega) (by omega)]
   exact⟨rfl,⟨i+1,by rw[cnt_at hm,if_pos h2];simp,by omega⟩,by simp[upTo];omega⟩
  ·rintro _ rfl
   rw[wrap_in (by omega) (by omega)]
   exact⟨rfl,⟨i+1,by rw[cnt_at hm,if_neg h2];simp,by omega⟩,by simp[upTo];omega⟩
 ·rw[List.take_of_length_le (by omega)]
end
open Go Go.Proofs
theorem rls_eq{m m':Rls} :m=m'↔m.id=m'.id/\m.lock=m'.lock:=by cases m;cases m';simp
theorem cEqRelsA{H:Heap}{a a':O}{l c l' c':Nat}{xs ys:List Rls}(hx:Rels H a l xs)(hy:Rels H a' l' ys):Spec Tryz.prog 76 [.slice a l c,.slice a' l' c',.func (.func 56) #[] #[]] H fun v _=>v= .bool (decide (xs=ys)):=by
 refine TryzvcJ Tryz.func76 (by kernel_rfl) (by kernel_rfl) _ rfl (fun base K=>vc85a a a' l c l' c' base H K) fun base hb=> ?_
 have hxl:=hx.len
 have hyl:=hy.len
 have hle:=hx.le
 refine⟨fun hne=> ?_,fun he=> ?_⟩
 ·rw[decide_eq_false];rintro rfl;omega
 refine⟨fun vs _=>∃(b:Bool)(k:Nat),vs=[.bool b,i64 k]/\k<=l/\(xs.drop k=ys.drop k↔xs=ys),upTo l 1,⟨false,0,rfl,by omega,by simp⟩,fun b n H' hN hI=> ?_⟩
 obtain⟨b',k,hvs,hk,hI⟩:=hI
 obtain⟨rfl,rfl⟩:b=b'/\n=(k:Int):=by simpa using hvs
 refine⟨fun hlt=>hx.rl hN.ext (by omega) hlt fun m a1 n1 c1 hm hp=>fun b4=>hy.rl hN.ext (by omega) (by omega) fun m' a2 n2 c2 hm' hq=>fun b8=>(cAlike (hp.ext' hN.ext) (hq.ext' hN.ext) _ _).bool1 fun H2 e2 _=>⟨fun h=> ?_,fun h=> ?_⟩,fun hge=> ?_⟩
 ·rw[Int.toNat_natCast] at hm hm'
  rw[drop_at hm,drop_at hm'] at hI
  rw[decide_eq_false]
  intro e
  exact absurd (List.cons.inj (hI.2 e)).1 (by rw[rls_eq];simpa using h)
 ·rw[Int.toNat_natCast] at hm hm'
  rw[drop_at hm,drop_at hm'] at hI
  have hpq:m=m':=by rw[rls_eq];simpa using h
  rintro r rfl
  rw[wrap_in (by omega) (by omega)]
  exact⟨⟨b,k+1,rfl,by omega,by rw[←hI];simp[hpq]⟩,by simp[upTo];omega⟩
 ·rw[decide_eq_true]
  exact hI.1 (by rw[drop_all hxl (by omega),drop_all hyl (by omega)])
theorem neq111{xo yo:Operand}(p q:Kn):RunsTo Tryz.prog (binRun .neq 95 xo yo (.agg #[.int .i64 p.st,.int .i64 p.try_,.bool p.back]) (.agg #[.int .i64 q.st,.int .i64 q.try_,.bool q.back])) (.bool (!(p.st==q.st&&p.try_==q.try_&&p.back==q.back))):=by
 intro w
 have u3:= Tryz.underlying3
 have a3:= Tryz.isAgg3
 have z3:= Tryz.sizeOf3
 have u4:= Tryz.underlying4
 have a4:= Tryz.isAgg4
 have z4:= Tryz.sizeOf4
 have hS: Tryz.prog.underlying 95=some (.struct (Tryz.prog.fieldsOf 95)):=by kernel_rfl
 have hp: Tryz.prog.stoodInHeld 95=false:=by kernel_rfl
 have hm: Tryz.prog.eqGuardType Tryz.prog.depth 95=false:=by kernel_rfl
 have he:(Op.equalIn 10000 95 (.agg #[.int .i64 p.st,.int .i64 p.try_,.bool p.back]) (.agg #[.int .i64 q.st,.int .i64 q.try_,.bool q.back])).run Tryz.prog w= .ok (p.st==q.st&&p.try_==q.try_&&p.back==q.back) w:=by
  rw[show(10000:Nat)=9999+1 from rfl,run_equalIn_agg w 9999 95 _ _ hS hp]
  simp only[Program.fieldsOf,Tryz.underlying95]
  go_simp
  by_cases h1:p.st=q.st<;>by_cases h2:p.try_=q.try_<;>by_cases h3:p.back=q.back<;>simp[h1,h2,h3]
 simp only[binRun,Sem.run_bind,run_eqGuard_agg w _ 95 _ _ _ _ hm,Result.andThen_ok,run_neq_struct,he]
theorem cEqKns{H:Heap}{a a':O}{l c l' c':Nat}{xs ys:List Kn}(hx:Kns H a l xs)(hy:Kns H a' l' ys):Spec Tryz.prog 78 [.slice a l c,.slice a' l' c'] H fun v _=>v= .bool (decide (xs=ys)):=by
 refine TryzvcJ Tryz.func78 (by kernel_rfl) (by kernel_rfl) _ rfl (fun base K=>vc138 a a' l c l' c' base H K) fun base hb=> ?_
 have hxl:=hx.len
 have hyl:=hy.len
 have hle:=hx.le
 refine⟨fun hne=> ?_,fun he=> ?_⟩
 ·rw[decide_eq_false];rintro rfl;omega
 refine⟨fun vs _=>∃(b:Bool)(k:Nat),vs=[.bool b,i64 k]/\k<=l/\(xs.drop k=ys.drop k↔xs=ys),upTo l 1,⟨false,0,rfl,by omega,by simp⟩,fun b n H' hN hI=> ?_⟩
 obtain⟨b',k,hvs,hk,hI⟩:=hI
 obtain⟨rfl,rfl⟩:b=b'/\n=(k:Int):=by simpa using hvs
 refine⟨fun hlt=>hx.kn hN.ext (by omega) hlt fun p hp=>hy.kn hN.ext (by omega) (by omega) fun q hq=>⟨_,neq111 p q,fun h=> ?_,fun h=> ?_⟩,fun hge=> ?_⟩
 ·rw[Int.toNat_natCast] at hp hq
  rw[drop_at hp,drop_at hq] at hI
  rw[decide_eq_false]
  intro e
  obtain⟨rfl,_⟩:=List.cons.inj (hI.2 e)
  simp at h
 ·rw[Int.toNat_natCast] at hp hq
  rw[drop_at hp,drop_at hq] at hI
  have hpq:p=q:=by
   cases p;cases q;simp at h;simp[h]
  rintro r rfl
  rw[wrap_in (by omega) (by omega)]
  exact⟨⟨b,k+1,rfl,by omega,by rw[←hI];simp[hpq]⟩,by simp[upTo];omega⟩
 ·rw[decide_eq_true]
  exact hI.1 (by rw[drop_all hxl (by omega),drop_all hyl (by omega)])
theorem ldr_eq{x y:Ldr} :x=y↔x.rels=y.rels/\x.now=y.now/\x.goal=y.goal/\x.back=y.back/\x.ags=y.ags/\x.nx=y.nx:=by cases x;cases y;simp
section
variable {H : Heap} {x y : Ldr} {la ka la' ka' : O} {ll lc kl kc ll' lc' kl' kc' : Nat}
theorem cLdrSame(h:LdrAt H x la ll ka kl)(h':LdrAt H y la' ll' ka' kl'):Spec Tryz.prog 36 [ldrArg x la ll lc ka kl kc,ldrArg y la' ll' lc' ka' kl' kc'] H fun v _=>v= .bool (decide (x=y)):=by
 refine TryzvcJ Tryz.func36 (by kernel_rfl) (by kernel_rfl) _ rfl (fun base K=>vc96 la ka ll lc kl kc x.now x.goal x.nx x.back la' ka' ll' lc' kl' kc' y.now y.goal y.nx y.back base H K) fun base hb=> ?_
 intro b b1
 refine⟨x=y,(cEqRelsA h.rels h'.rels).bool1 fun H1 e1 _=>⟨fun q1=>⟨fun q2=>⟨fun q3=>⟨_,eqBool,fun q4=>(cEqKns (h.ext e1).ags (h'.ext e1).ags).bool1 fun H2 e2 _=>⟨fun q5=>⟨rfl,e1.trans e2,?_⟩,fun q5=>⟨rfl,e1.trans e2,fun e=>by simp[e] at q5⟩⟩,fun q4=>⟨rfl,e1,fun e=>q4 (by simp[e])⟩⟩,fun q3=>⟨rfl,e1,fun e=>q3 (by rw[e])⟩⟩,fun q2=>⟨rfl,e1,fun e=>q2 (by rw[e])⟩⟩,fun q1=>⟨rfl,e1,fun e=>by simp[e] at q1⟩⟩,?_⟩
 ·rw[ldr_eq];simp at q1 q4 q5;simp[q1,q2,q3,q4,q5]
 ·congr 1;exact decide_eq_decide.2 Iff.rfl
end
section
variable {H : Heap} {c : Conf} {fa ra wa : O} {fl fc rl rc wl wc : Nat} {l : Ldr} {la ka : O} {ll lc kl kc : Nat}
theorem cLdrCheck(hc:CfgAt H c fa fl ra rl wa wl)(h:LdrAt H l la ll ka kl):Spec Tryz.prog 197 [cfgArg c fa fl fc ra rl rc wa wl wc,ldrArg l la ll lc ka kl kc] H fun v _=>v=i64 (ldrErr c l):=by
 refine TryzvcJ Tryz.func197 (by kernel_rfl) (by kernel_rfl) _ rfl (fun base K=>vc77 c.first.id c.bud fa ra wa fl fc rl rc wl wc la ka ll lc kl kc l.now l.goal l.nx l.back base H K) fun base hb=> ?_
 intro b b1
 have hll:=h.rels.len
 have hle:=h.rels.le
 have hkl:=h.ags.len
 have hke:=h.ags.le
 refine(cConfig hc).int1 fun H1 e1 _=>⟨fun q1=>by rw[ldrErr,if_pos q1],fun q1=> ?_⟩
 refine⟨l.rels.length=0∨6<l.rels.length,⟨fun q=>⟨rfl,fun _ _ h=>h,by omega⟩,fun q=>⟨rfl,fun _ _ h=>h,by omega⟩⟩,fun q2=>by rw[ldrErr,if_neg q1,if_pos q2],fun q2=> ?_⟩
 refine⟨fun vs _=>∃(d:Int)(i:Nat),vs=[i64 d,i64 i]/\i<=ll/\relsErr c.rules i (l.rels.drop i)=relsErr c.rules 0 l.rels,upTo ll 1,⟨0,0,rfl,by omega,rfl⟩,fun n n1 H2 hN hI=> ?_⟩
 obtain⟨d,i,hvs,hi,hI⟩:=hI
 obtain⟨rfl,rfl⟩:n=d/\n1=(i:Int):=by simpa using hvs
 refine⟨fun hlt=>h.rels.rl hN.ext (by omega) hlt fun m ma mn mc hm hp=>fun b2=> ?_,fun hge=> ?_⟩
 ·rw[Int.toNat_natCast] at hm
  rw[drop_at hm,relsErr] at hI
  have bad:∀ {e:Int},relsErr c.rules 0 l.rels=e->e≠0->ldrErr c l=e:=fun he h0=>by rw[ldrErr,if_neg q1,if_neg q2,if_pos (by omega),he]
  refine(cBroken (hp.ext' hN.ext) (hc.ext hN.ext).rules).int2 fun H3 e3 _=>⟨fun q3=> ?_,fun q3=>⟨fun q4=> ?_,fun q4=> ?_⟩⟩
  ·rw[if_pos q3] at hI;rw[bad hI.symm q3]
  ·rw[if_neg q3,if_pos q4] at hI;rw[bad hI.symm (by omega)]
  ·rw[if_neg q3,if_neg q4] at hI
   rintro _ rfl
   rw[wrap_in (by omega) (by omega)]
   refine⟨fun q5=> ?_,fun q5=> ?_⟩
   ·rw[if_pos q5] at hI;rw[bad hI.symm (by omega)]
   ·rw[if_neg (by omega)] at hI
    rintro _ rfl
    exact⟨rfl,⟨_,i+1,rfl,by omega,hI⟩,by simp[upTo];omega⟩
 ·rw[drop_all hll (by omega),relsErr] at hI
  have E1:ldrErr c l=if ldrRange l then 3 else if ldrForm c l then 4 else knErr l.goal l.nx l.back l.ags:=by rw[ldrErr,if_neg q1,if_neg q2,if_neg (by omega)]
  refine⟨ldrRange l,?_,fun q3=>by rw[E1,if_pos q3],fun q3=> ?_⟩
  ·unfold ldrRange
   repeat' (first|exact⟨rfl,fun _ _ h=>h,by omega⟩|intro _|refine⟨?_,?_⟩)
  rw[if_neg q3] at E1
  have form:ldrForm c l->ldrErr c l=4:=fun q=>by rw[E1,if_pos q]
  refine⟨fun q4=>by rw[form (.inl q4)],fun q4=>⟨fun q5=>⟨fun q6=>by rw[form (.inr (.inl ⟨q5,q6⟩))],fun q6=> ?_⟩,fun q5=> ?_⟩⟩
  all_goals
   have hgb:¬(l.goal=0/\l.back=true):=by first|exact fun q=>by rw[q6] at q;cases q.2|exact fun q=>q5 q.1
   refine(cAgents (hc.ext hN.ext)).int1 fun H3 e3 _=>⟨fun q7=>by rw[form (.inr (.inr (.inl (by omega))))],fun q7=>h.rels.rl (k:=0) (Ext.trans hN.ext e3) (by omega) (by omega) fun m ma mn mc hm hp=> ?_⟩
   have E3:=Ext.trans hN.ext e3
   have hm0:l.rels[0]?=some m:=hm
   refine(cAlike (hp.ext' E3) (hc.ext E3).pins _ _).bool1 fun H4 e4 _=>⟨fun q8=> ?_,fun q8=> ?_⟩
   ·rw[form (.inr (.inr (.inr (by rw[hm0];intro e;simp at e;subst e;simp at q8))))]
   have hmf:m=c.first:=by rw[rls_eq];simpa using q8
   have hF:¬ldrForm c l:=by
    rintro(q|q|q|q)
    ·exact q4 q
    ·exact hgb q
    ·omega
    ·exact q (by rw[hm0,hmf])
   have E2:ldrErr c l=knErr l.goal l.nx l.back l.ags:=by rw[E1,if_neg hF]
   refine⟨fun vs _=>∃(d:Int)(i:Nat),vs=[i64 d,i64 i]/\i<=kl/\knErr l.goal l.nx l.back (l.ags.drop i)=knErr l.goal l.nx l.back l.ags,upTo kl 1,⟨_,0,rfl,by omega,rfl⟩,fun n2 n3 H5 hN5 hI5=> ?_⟩
   obtain⟨d5,j,hvs5,hj,hI5⟩:=hI5
   obtain⟨rfl,rfl⟩:n2=d5/\n3=(j:Int):=by simpa using hvs5
   refine⟨fun hlt5=>h.ags.kn hN5.ext (by omega) hlt5 fun z hz=>fun b6=> ?_,fun hge5=> ?_⟩
   ·rw[Int.toNat_natCast] at hz
    rw[drop_at hz,knErr] at hI5
    refine⟨badKn l.nx z,?_,fun q9=>by rw[E2,←hI5,if_pos q9],fun q9=> ?_⟩
    ·unfold badKn
     repeat' (first|exact⟨rfl,fun _ _ h=>h,by omega⟩|intro _|refine⟨?_,?_⟩)
    refine⟨oddKn l.goal l.back z,?_,fun q10=>by rw[E2,←hI5,if_neg q9,if_pos q10],fun q10=> ?_⟩
    ·unfold oddKn
     repeat' (first|exact⟨rfl,fun _ _ h=>h,by grind⟩|intro _|refine⟨?_,?_⟩)
    rw[if_neg q9,if_neg q10] at hI5
    rintro _ rfl
    rw[wrap_in (by omega) (by omega)]
    exact⟨rfl,⟨_,j+1,rfl,by omega,hI5⟩,by simp[upTo];omega⟩
   ·rw[drop_all hkl (by omega),knErr] at hI5
    rw[E2,←hI5]
end
open Go Go.Proofs
def bIdx(v:Bool):Int->List Bool->Int
 |_,[]=> -1
 |i,x::r=>if v=x then i else bIdx v (i+1) r
theorem bIdx_mem(v:Bool):∀(l:List Bool)(i:Int),0<=i->(0<=bIdx v i l↔v∈l)
 | [],i,_=>by simp[bIdx]
 |x::r,i,h=>by
  unfold bIdx
  split
  ·rename_i e;subst e;simp[h]
  ·rename_i e;rw[bIdx_mem v r (i+1) (by omega)];simp[e]
theorem cHasBool{H:Heap}{a:O}{l c:Nat}{xs:List Bool}(hx:Sl RBool 1 H a l xs)(v:Bool):Spec Tryz.prog 255 [.slice a l c,.bool v] H fun r _=>r= .bool (decide (v∈xs)):=by
 have h155:Spec Tryz.prog 274 [.slice a l c,.bool v] H fun r _=>r=i64 (bIdx v 0 xs):=by
  refine TryzvcJ Tryz.func274 (by kernel_rfl) (by kernel_rfl) _ rfl (fun base K=>vc155 a l c v base H K) fun base hb=> ?_
  have hle:=hx.le
  refine⟨fun vs _=>∃(d:Int)(k:Nat),vs=[i64 d,i64 k]/\k<=l/\bIdx v k (xs.drop k)=bIdx v 0 xs,upTo l 1,⟨0,0,rfl,by omega,rfl⟩,fun d n H' hN hI=> ?_⟩
  obtain⟨d',k,hvs,hk,hI⟩:=hI
  obtain⟨rfl,rfl⟩:d=d'/\n=(k:Int):=by simpa using hvs
  refine⟨fun hlt=>hx.bool hN.ext (by omega) hlt fun y hy=>⟨_,eqBool,fun he=> ?_,fun he=> ?_⟩,fun hge=> ?_⟩
  ·rw[Int.toNat_natCast] at hy
   rw[drop_at hy,bIdx,if_pos (by simpa using he)] at hI
   rw[hI]
  ·rw[Int.toNat_natCast] at hy
   rw[drop_at hy,bIdx,if_neg (by simpa using he)] at hI
   rintro r rfl
   rw[wrap_in (by omega) (by omega)]
   exact⟨⟨d,k+1,rfl,by omega,hI⟩,by simp[upTo];omega⟩
  ·rw[drop_all hx.len (by omega),bIdx] at hI;rw[hI]
 refine TryzvcJ Tryz.func255 (by kernel_rfl) (by kernel_rfl) _ rfl (fun base K=>vc151 a l c v base H K) fun base hb=> ?_
 refine h155.int1 fun H' _ _=> ?_
 simp[bIdx_mem v xs 0 (by omega)]
theorem cBusy{H:Heap}(a:Kn):Spec Tryz.prog 257 [.agg #[.int .i64 a.st,.int .i64 a.try_,.bool a.back]] H fun v _=>v= .bool (decide (busy a)):=by
 refine TryzvcJ Tryz.func257 (by kernel_rfl) (by kernel_rfl) _ rfl (fun base K=>vc152 a.st a.try_ a.back base H K) fun base hb=> ?_
 intro b
 refine⟨busy a,?_,by congr 1;exact decide_eq_decide.2 Iff.rfl⟩
 unfold busy
 repeat' (first|exact⟨rfl,fun _ _ h=>h,by grind⟩|intro _|refine⟨?_,?_⟩)
def knIdx(f:Kn->Bool):Int->List Kn->Int
 |_,[]=> -1
 |i,x::r=>if f x=true then i else knIdx f (i+1) r
theorem knIdx_any(f:Kn->Bool):∀(l:List Kn)(i:Int),0<=i->(0<=knIdx f i l↔l.any f=true)
 | [],i,_=>by simp[knIdx]
 |x::r,i,h=>by
  unfold knIdx
  split
  ·rename_i e;simp[h,e]
  ·rename_i e;rw[knIdx_any f r (i+1) (by omega)];simp[e]
theorem cAnyBusy{H:Heap}{a:O}{l c:Nat}{xs:List Kn}(hx:Kns H a l xs):Spec Tryz.prog 256 [.slice a l c,.func (.func 257) #[] #[]] H fun r _=>r= .bool (xs.any fun a=>decide (busy a)):=by
 have h136:Spec Tryz.prog 275 [.slice a l c,.func (.func 257) #[] #[]] H fun r _=>r=i64 (knIdx (fun a=>decide (busy a)) 0 xs):=by
  refine TryzvcJ Tryz.func275 (by kernel_rfl) (by kernel_rfl) _ rfl (fun base K=>vc136a a l c base H K) fun base hb=> ?_
  have hle:=hx.le
  refine⟨fun vs _=>∃(d:Int)(k:Nat),vs=[i64 d,i64 k]/\k<=l/\knIdx (fun a=>decide (busy a)) k (xs.drop k)=knIdx (fun a=>decide (busy a)) 0 xs,upTo l 1,⟨0,0,rfl,by omega,rfl⟩,fun d n H' hN hI=> ?_⟩
  obtain⟨d',k,hvs,hk,hI⟩:=hI
  obtain⟨rfl,rfl⟩:d=d'/\n=(k:Int):=by simpa using hvs
  refine⟨fun hlt=>hx.kn hN.ext (by omega) hlt fun y hy=>(cBusy y).bool1 fun H2 e2 _=>⟨fun he=> ?_,fun he=> ?_⟩,fun hge=> ?_⟩
  ·rw[Int.toNat_natCast] at hy
   rw[drop_at hy,knIdx,if_pos he] at hI
   rw[hI]
  ·rw[Int.toNat_natCast] at hy
   rw[drop_at hy,knIdx,if_neg (by rw[he];simp)] at hI
   rintro r rfl
   rw[wrap_in (by omega) (by omega)]
   exact⟨⟨d,k+1,rfl,by omega,hI⟩,by simp[upTo];omega⟩
  ·rw[drop_all hx.len (by omega),knIdx] at hI;rw[hI]
 refine TryzvcJ Tryz.func256 (by kernel_rfl) (by kernel_rfl) _ rfl (fun base K=>vc82a a l c base H K) fun base hb=> ?_
 refine h136.int1 fun H' _ _=> ?_
 have:=knIdx_any (fun a=>decide (busy a)) xs 0 (by omega)
 congr 1
 cases hany:xs.any (fun a=>decide (busy a))
 ·rw[decide_eq_false (by rw[this,hany];simp)]
 ·rw[decide_eq_true (this.2 hany)]
section
variable {H : Heap} {c : Conf} {fa ra wa : O} {fl fc rl rc wl wc : Nat} {l : Ldr} {la ka : O} {ll lc kl kc : Nat}
theorem thr_len(l:List Kn):(thr l).length=l.length:=by simp[thr]
theorem cTurn(hc:CfgAt H c fa fl ra rl wa wl)(h:LdrAt H l la ll ka kl)(h6:l.ags.length<=6){k:Int}(h0:0<=k)(h1:k<kl):Spec Tryz.prog 231 [cfgArg c fa fl fc ra rl rc wa wl wc,ldrArg l la ll lc ka kl kc,i64 k] H fun v _=>v= .bool (turnOf c l k):=by
 refine TryzvcJ Tryz.func231 (by kernel_rfl) (by kernel_rfl) _ rfl (fun base K=>vc134 c.first.id c.bud fa ra wa fl fc rl rc wl wc la ka ll lc kl kc l.now l.goal l.nx l.back k base H K) fun base hb=> ?_
 intro b b1
 refine h.ags.kn (Ext.refl _) h0 h1 fun m hm=>fun b4=>⟨fun q=> ?_,fun q=> ?_⟩
 ·refine⟨m.st≠0/\m.back=false,⟨fun w=>⟨rfl,fun _ _ h=>h,by simp[w]⟩,fun w=>⟨rfl,fun _ _ h=>h,fun w2=>w w2.1⟩⟩,?_⟩
  unfold turnOf
  rw[hm]
  simp only[q,if_true]
  congr 1;exact decide_eq_decide.2 Iff.rfl
 ·have hT0:turnOf c l k=decide (waveCheck c.waves l.ags.length=0/\m.st=0/\waveOf c.waves k=waveNow c.waves (thr l.ags)/\cnt 3 l.ags<=c.bud):=by
   unfold turnOf
   rw[hm]
   simp[q]
  rw[hT0]
  refine(cThrough h h6).sl1 fun a n c' H1 e1 _ hT=> ?_
  refine(cWaveNow (hc.ext e1).waves hT).int2 fun H2 e2 _=> ?_
  rw[thr_len]
  refine⟨fun w1=>⟨fun w2=> ?_,fun w2=>by simp[w2]⟩,fun w1=>by simp[w1]⟩
  refine(cWaveOf (hc.ext (e1.trans e2)).waves k).int1 fun H3 e3 _=>⟨fun w3=> ?_,fun w3=>by simp[w3]⟩
  exact(cIll (h.ext ((e1.trans e2).trans e3))).int1 fun H4 e4 _=>by simp[w1,w2,w3]
theorem cOver(hc:CfgAt H c fa fl ra rl wa wl)(h:LdrAt H l la ll ka kl)(h6:l.ags.length<=6):Spec Tryz.prog 232 [cfgArg c fa fl fc ra rl rc wa wl wc,ldrArg l la ll lc ka kl kc] H fun v _=>v= .bool (overOf c l):=by
 refine TryzvcJ Tryz.func232 (by kernel_rfl) (by kernel_rfl) _ rfl (fun base K=>vc135 c.first.id c.bud fa ra wa fl fc rl rc wl wc la ka ll lc kl kc l.now l.goal l.nx l.back base H K) fun base hb=> ?_
 intro b b1
 refine⟨fun q=> ?_,fun q=> ?_⟩
 ·have hO:overOf c l=decide (cnt 3 l.ags<=c.bud/\false∉thr l.ags):=by unfold overOf;rw[if_pos q]
  rw[hO]
  refine(cIll h).int1 fun H1 e1 _=>⟨fun w=>(cThrough (h.ext e1) h6).sl1 fun a n c' H2 e2 _ hT=>(cHasBool hT false).bool1 fun H3 e3 _=> ?_,fun w=>by simp[w]⟩
  simp[w]
 ·have hO:overOf c l=decide (∀a∈l.ags,¬busy a):=by unfold overOf;rw[if_neg q]
  rw[hO]
  refine(cAnyBusy h.ags).bool1 fun H1 e1 _=> ?_
  congr 1
  rw[decide_eq_decide]
  simp
theorem notThr{l:List Kn}{a:Int}(h0:0<=a){m:Kn}(hm:l[a.toNat]?=some m):notThrough (thr l) a=true↔ ¬(m.st=2∨m.st=3):=by
 unfold notThrough thr
 rw[List.getElem?_map,hm]
 simp
end
open Go Go.Proofs
theorem cCloneRels{H:Heap}{a:O}{l c:Nat}{ms:List Rls}(hx:Rels H a l ms)(hl:l<=100000):Spec Tryz.prog 216 [.slice a l c] H fun v H'=>∃a n c rs,v= .slice a n c/\Fresh H H' 24 2 a n c rs.flatten/\(∀r∈rs,r.length=2)/\AllR RRl H rs ms:=by
 refine TryzvcJ Tryz.func216 (by kernel_rfl) (by kernel_rfl) _ rfl (fun base K=>vc147 a l c base H K) fun base hb=>⟨_,eqNil Tryz.underlying29,fun h=> ?_,fun h=> ?_⟩
 ·obtain rfl:a=none:=by cases a<;>simp at h⊢
  obtain⟨_,rfl⟩:=hx.addr_nil
  exact⟨none,0,0,[],rfl,Fresh.zero,by simp,trivial⟩
 ·intro g H1 hN1 _ hg
  obtain⟨rs,h1,h2,h3,h4⟩:=hx.rows RRl.len
  exact⟨[],_,Row.zero,h3,allOne_rows RRl.one h2,h4.imp id (fun⟨b,o,hb,hc⟩=>⟨b,o,hb,cellsAt_ext hN1.ext hc⟩),by omega,by omega,fun a3 c3 H3 hG hR=>⟨_,_,_,rs,rfl,hR.fresh hb,h1,h2⟩⟩
theorem cCloneKns{H:Heap}{a:O}{l c:Nat}{xs:List Kn}(hx:Kns H a l xs)(hl:l<=100000):Spec Tryz.prog 217 [.slice a l c] H fun v H'=>∃a n c,v= .slice a n c/\Fresh H H' 95 3 a n c (xs.flatMap knCells):=by
 refine TryzvcJ Tryz.func217 (by kernel_rfl) (by kernel_rfl) _ rfl (fun base K=>vc148 a l c base H K) fun base hb=>⟨_,eqNil Tryz.underlying30,fun h=> ?_,fun h=> ?_⟩
 ·obtain rfl:a=none:=by cases a<;>simp at h⊢
  obtain⟨_,rfl⟩:=hx.addr_nil
  exact⟨none,0,0,rfl,Fresh.zero⟩
 ·intro g H1 hN1 _ hg
  obtain⟨hc1,hc2⟩:=hx.cells knCells_len hN1.ext
  exact⟨[],xs.flatMap knCells,Row.zero,hc1,allOne_flat knCells_one xs,hc2,by omega,by omega,fun a3 c3 H3 hG hR=>⟨_,_,_,rfl,hR.fresh hb⟩⟩
theorem Row.other{base:Nat}{H H':Heap}{e:TypeId}{sz:Nat}{a:O}{n c b o:Nat}{k:KB}{xs vs:List Value}(h:Row base H e sz a n c xs)(hu:Upd H b o k vs H')(hne:c≠0->a≠some ⟨b,0,none⟩):Row base H' e sz a n c xs:=by
 obtain⟨h1,h2,h3,h4⟩:=h
 by_cases hc:c=0
 ·exact⟨h1,h2,h3,.inl ⟨by omega,hc⟩⟩
 ·refine⟨h1,h2,h3,h4.imp id fun⟨g,k',q1,q2,q3,q4⟩=>⟨g,k',q1,q2,?_,q4⟩⟩
  rw[hu.there g (fun e=>hne hc (by rw[q1,e]))];exact q3
theorem Row.stay{base:Nat}{H H':Heap}{f:TypeId}{sy:Nat}{a a' b:O}{c c' nn m d:Nat}{ys:List Value}(h:Row base H f sy b m d ys)(hG:Grew base H H' a c a' c' nn)(hs:c≠0->d≠0->a≠b):Row base H' f sy b m d ys/\(c'≠0->d≠0->a'≠b):=by
 obtain⟨h1,h2,h3,h4⟩:=h
 rcases h4 with⟨h5,h6⟩|⟨g,k,hb,hbase,hH,hr⟩
 ·exact⟨⟨h1,h2,h3,.inl ⟨h5,h6⟩⟩,fun _ hd=>absurd h6 hd⟩
 ·by_cases hd:d=0
  ·exact⟨⟨h1,h2,h3,.inl ⟨by omega,hd⟩⟩,fun _ h=>absurd hd h⟩
  ·refine⟨⟨h1,h2,h3,.inr ⟨g,k,hb,hbase,hG.keep g k hH ?_,hr⟩⟩,fun hc' _ e=> ?_⟩
   ·by_cases hc:c=0
    ·exact .inl hc
    ·exact .inr fun e=>hs hc hd (by rw[e,hb])
   ·rcases hG.place hc' g (by rw[e,hb]) with h|⟨h,hc⟩
    ·rw[hH] at h;cases h
    ·exact hs hc hd (by rw[←h,e])
theorem OwnSl.other{α:Type}{R:Rep α}{sz:Nat}{e:TypeId}{base:Nat}{G H H':Heap}{a:O}{n c b o:Nat}{k:KB}{vs:List Value}{rows:List (List Value)}{xs:List α}(h:OwnSl R sz e base G H a n c rows xs)(hu:Upd H b o k vs H')(hne:c≠0->a≠some ⟨b,0,none⟩)(hG:G b=none):
  OwnSl R sz e base G H' a n c rows xs:=
 ⟨h.row.other hu hne,h.wid,h.all,fun x k hx=>by
  rw[hu.there x (fun e=>by rw[e,hG] at hx;cases hx)];exact h.sub x k hx,h.clear⟩
structure OwnL(base:Nat)(G H:Heap)(l:Ldr)(la:O)(ll lc:Nat)(ka:O)(kl kc:Nat)(rows:List (List Value)):Prop where
 rels:OwnSl RRl 2 24 base G H la ll lc rows l.rels
 ags:Row base H 95 3 ka kl kc (l.ags.flatMap knCells)
 apart:lc≠0->kc≠0->la≠ka
 clear:kc≠0->∀g,ka=some ⟨g,0,none⟩->G g=none
structure NewL(H G H':Heap)(l:Ldr)(la:O)(ll lc:Nat)(ka:O)(kl kc:Nat)(rows:List (List Value)):Prop where
 rels:NewSl RRl 2 24 H G H' la ll lc rows l.rels
 ags:Fresh H H' 95 3 ka kl kc (l.ags.flatMap knCells)
 apart:lc≠0->kc≠0->la≠ka
 clear:kc≠0->∀g,ka=some ⟨g,0,none⟩->G g=none
theorem NewL.own{base:Nat}{H G H':Heap}{l:Ldr}{la ka:O}{ll lc kl kc:Nat}{rows:List (List Value)}(h:NewL H G H' l la ll lc ka kl kc rows)(hN:Next base H H'):OwnL base G H' l la ll lc ka kl kc rows:=
 ⟨h.rels.own hN,h.ags.row hN,h.apart,h.clear⟩
theorem kns_row{base:Nat}{H:Heap}{ka:O}{kl kc:Nat}{xs:List Kn}(h:Row base H 95 3 ka kl kc (xs.flatMap knCells)):Kns H ka kl xs:=sl_of_rowE knCells_len (by omega) h
theorem OwnL.at_{base:Nat}{G H:Heap}{l:Ldr}{la ka:O}{ll lc kl kc:Nat}{rows:List (List Value)}(h:OwnL base G H l la ll lc ka kl kc rows):LdrAt H l la ll ka kl:=⟨h.rels.sl RRl.mono (by omega),kns_row h.ags⟩
theorem OwnL.ext{base:Nat}{G H H':Heap}{l:Ldr}{la ka:O}{ll lc kl kc:Nat}{rows:List (List Value)}(h:OwnL base G H l la ll lc ka kl kc rows)(x:Ext H H'):OwnL base G H' l la ll lc ka kl kc rows:=⟨h.rels.ext x,h.ags.ext x,h.apart,h.clear⟩
theorem cCopyL{H:Heap}{l:Ldr}{la ka:O}{ll lc kl kc:Nat}(h:LdrAt H l la ll ka kl)(hl1:ll<=100000)(hl2:kl<=100000)(hk:∀m∈l.rels,m.lock.length<=100000):
  Spec Tryz.prog 170 [ldrArg l la ll lc ka kl kc] H fun v H'=>∃la ll lc ka kl kc G rows,v=ldrArg l la ll lc ka kl kc/\NewL H G H' l la ll lc ka kl kc rows:=by
 refine TryzvcJ Tryz.func170 (by kernel_rfl) (by kernel_rfl) _ rfl (fun base K=>vc129 la ka ll lc kl kc l.now l.goal l.nx l.back base H K) fun base hb=> ?_
 intro b b0
 have hml:=h.rels.len
 refine(cCloneRels h.rels hl1).mono fun v H1 e1 hv=> ?_
 obtain⟨a1,n1,c1,rs,rfl,hF,hw,hA⟩:=hv
 refine⟨a1,n1,c1,rfl,fun hN1=> ?_⟩
 refine(cCloneKns (h.ext e1).ags hl2).mono fun v H2 e2 hv=> ?_
 obtain⟨a2,n2,c2,rfl,hF2⟩:=hv
 refine⟨a2,n2,c2,rfl,fun hN2=> ?_⟩
 have hR:=(hF.row hN1).ext e2
 have hK:=hF2.row hN2
 have hrl:rs.length=n1:=by
  have:=hR.1
  rw[flat_wid hw] at this
  omega
 have hrm:=hA.len
 have hapart:c1≠0->c2≠0->a1≠a2:=fun q1 q2 e=>by
  rcases hF.2.2.2 with⟨_,h0⟩|⟨g,k,w1,w2,w3,_⟩
  ·exact q1 h0
  ·rcases hF2.2.2.2 with⟨_,h0⟩|⟨g',k',u1,u2,_⟩
   ·exact q2 h0
   ·rw[e,u1] at w1;simp at w1;subst w1;rw[w3] at u2;cases u2
 refine⟨fun vs Hc=>∃(i:Nat)(r1:List (List Value))(G:Heap),vs=[i64 i]/\i<=n1/\r1.length=i/\(∀r∈r1,r.length=2)/\Row base Hc 24 2 a1 n1 c1 (r1++rs.drop i).flatten/\Row base Hc 95 3 a2 n2 c2 (l.ags.flatMap knCells)/\AllR RRl G r1 (l.rels.take i)/\Away H G/\Ext G Hc/\(c1≠0->∀g,a1=some ⟨g,0,none⟩->G g=none)/\(c2≠0->∀g,a2=some ⟨g,0,none⟩->G g=none),
  upTo n1 0,⟨0,[],fun _=>none,rfl,by omega,rfl,by simp,hR,hK,by simp[AllR],fun _ _ h=>(by cases h),fun _ _ h=>(by cases h),fun _ _ _=>rfl,fun _ _ _=>rfl⟩,fun m H3 hN3 hI=> ?_⟩
 obtain⟨i,r1,G,hvs,hi,hr1,hw1,hR2,hK2,hA2,haw,hsub,hcl,hcl2⟩:=hI
 obtain rfl:m=(i:Int):=by simpa using hvs
 refine⟨fun hlt=> ?_,fun hge=> ?_⟩
 ·have hri:rs[i]?=some (rs[i]'(by omega)):=List.getElem?_eq_getElem (by omega)
  have hmi:l.rels[i]?=some (l.rels[i]'(by omega)):=List.getElem?_eq_getElem (by omega)
  generalize hrr:rs[i]'(by omega)=r at hri
  generalize hmm:l.rels[i]'(by omega)=m at hmi
  obtain⟨pa,pn,pc,rfl,hp,hg⟩:=hA.get hri hmi
  have hpl:=hp.len
  have hkm:=hk m (List.mem_of_getElem? hmi)
  have hwL:∀r∈r1++rs.drop i,r.length=2:=fun r hr=>by
   rcases List.mem_append.1 hr with hr|hr
   ·exact hw1 r hr
   ·exact hw r (List.mem_of_mem_drop hr)
  have hat:(r1++rs.drop i)[i]?=some [i64 m.id,.slice pa pn pc]:=by
   rw[List.getElem?_append_right (by omega),hr1,Nat.sub_self,List.getElem?_drop,Nat.add_zero];exact hri
  obtain⟨b,hab,hcell⟩:=hR2.at hwL (by simp;omega) hat
  have hd:=drop_at hri
  refine⟨b,0,hab,by omega,hlt,_,_,_,_,⟨hcell 0 _ rfl,hcell 1 _ rfl,trivial⟩,fun b2=> ?_⟩
  refine(cCloneJ (hp.ext' hN3.ext) (by omega)).mono fun v H4 e4 hv=> ?_
  obtain⟨a6,n6,c6,rfl,hF6⟩:=hv
  refine⟨a6,n6,c6,rfl,fun hN4=> ?_⟩
  obtain⟨b3,k3,hb3,hbase,hc1,hH2,hf3,hs3,_⟩:=hR2.block (by omega)
  obtain rfl:b=b3:=by rw[hab] at hb3;simpa using hb3
  have hnc:=hR2.2.1
  refine⟨b,0,hab,by omega,hlt,k3,e4 _ _ hH2,hf3,hbase,by rw[hs3,Int.toNat_natCast];omega,fun H5 hu=> ?_⟩
  rintro r rfl
  rw[wrap_in (by omega) (by omega)]
  rw[Int.toNat_natCast] at hu
  have hR4:=(hR2.ext e4).upd hab hc1 (e4 _ _ hH2) (o:=0+i*2+1) (vs:=[.slice a6 n6 c6]) (by rw[hR2.1];show 0+i*2+1+1<=n1*2;omega) hu
  have hK4:=(hK2.ext e4).other hu (fun q e=>hapart hc1 q (by rw[hab,e]))
  rw[hd,show 0+i*2+1=r1.length*2+1 from by omega,rows_set hw1 rfl (by simp)] at hR4
  have hnew:RRl (G.plus (newOf H3 H4)) (setRange [i64 m.id,.slice pa pn pc] 1 [.slice a6 n6 c6]) m:=⟨a6,n6,c6,rfl,Sl.ext REnc.mono (hF6.sl_new pinCells_len (by omega)) (new_in_grow hsub),hg⟩
  have hGb:(G.plus (newOf H3 H4)) b=none:=by
   unfold Heap.plus newOf
   rw[hcl hc1 b hab,hH2]
  refine⟨rfl,⟨i+1,r1++[setRange [i64 m.id,.slice pa pn pc] 1 [.slice a6 n6 c6]],G.plus (newOf H3 H4),rfl,by omega,by simp[hr1],fun r hr=> ?_,by simpa using hR4,hK4,?_,?_,fun x k hx=> ?_,fun _ g hg=> ?_,fun q g hg=> ?_⟩,by simp[upTo];omega⟩
  ·rcases List.mem_append.1 hr with hr|hr
   ·exact hw1 r hr
   ·simp at hr;subst hr;rfl
  ·rw[take_at hmi]
   exact AllR.append (AllR.one hnew) (hA2.mono RRl.mono plus_left)
  ·exact plus_away haw (newOf_away.sub hN3.ext)
  ·have hne:x≠b:=fun e=>by rw[e,hGb] at hx;cases hx
   rw[hu.there x hne]
   exact plus_sub (hsub.trans e4) newOf_ext x k hx
  ·rw[hab] at hg;simp at hg;subst hg;exact hGb
  ·unfold Heap.plus newOf
   rw[hcl2 q g hg]
   rcases hK2.2.2.2 with⟨_,h0⟩|⟨g',k',u1,_,u3,_⟩
   ·exact absurd h0 q
   ·rw[hg] at u1;simp at u1;subst u1;rw[u3]
 ·obtain rfl:i=n1:=by omega
  rw[List.drop_eq_nil_of_le (by omega),List.append_nil] at hR2
  rw[List.take_of_length_le (by omega)] at hA2
  exact⟨_,_,_,_,_,_,G,r1,rfl,OwnSl.new ⟨hR2,hw1,hA2,hsub,hcl⟩ hb haw,hK2.fresh hb,hapart,hcl2⟩
theorem rels_box{H:Heap}{g:Nat}{ty:TypeId}{m:Rls}{a:O}{n c:Nat}(h:H g=some (boxKB ty [i64 m.id,.slice a n c]))(hp:Pins H a n m.lock)(hg:Rg m.id):Rels H (some ⟨g,0,none⟩) 1 [m]:=
 Sl.of_has (rows:=[[i64 m.id,.slice a n c]]) (Has.of_box h rfl (by simp) rfl (by omega)) rfl fun i r x hr hx=>by
  cases i with
  |zero=>simp at hr hx;subst hr;subst hx;exact⟨a,n,c,rfl,hp,hg⟩
  |succ i=>simp at hr
theorem kns_box{H:Heap}{g n:Nat}{ty:TypeId}(h:H g=some (boxKB ty (List.flatten (List.replicate n [i64 0,i64 0,.bool false]))))(hn:n<=100000):Kns H (some ⟨g,0,none⟩) n (List.replicate n ⟨0,0,false⟩):=by
 refine sl_of_boxE (ty:=ty) knCells_len ?_ (by simp) (by omega)
 rw[h]
 congr 2
 rw[List.flatMap_def,List.map_replicate]
 rfl
theorem rg_id{r:Rls}(h:relErr r=0):Rg r.id:=by have:=(relErr_zero h).1;unfold Rg;omega
section
variable {H : Heap} {c : Conf} {fa ra wa : O} {fl fc rl rc wl wc : Nat} {l : Ldr} {la ka : O} {ll lc kl kc : Nat}
theorem cNewL(hc:CfgAt H c fa fl ra rl wa wl):Spec Tryz.prog 86 [cfgArg c fa fl fc ra rl rc wa wl wc] H fun v H'=>∃la ll lc ka kl kc,v= .tuple #[ldrArg (if cfgErr c=0 then newLdr c else noLdr) la ll lc ka kl kc,i64 (cfgErr c)]/\LdrAt H' (if cfgErr c=0 then newLdr c else noLdr) la ll ka kl:=by
 refine TryzvcJ Tryz.func86 (by kernel_rfl) (by kernel_rfl) _ rfl (fun base K=>vc84 c.first.id c.bud fa ra wa fl fc rl rc wl wc base H K) fun base hb=> ?_
 intro b b0
 refine(cConfig hc).int1 fun H1 e1 _=>⟨fun q=> ?_,fun q=> ?_⟩
 ·rw[if_neg q];exact⟨none,0,0,none,0,0,rfl,Sl.nil,Sl.nil⟩
 have q0:cfgErr c=0:=Decidable.not_not.1 q
 rw[if_pos q0,q0]
 obtain⟨z1,z2,z3,z4,z5,z6,z7⟩:=cfgErr_zero q0
 have hag:=(agents_same z7).2
 have hfl:=hc.pins.len
 have hf12:=(relErr_zero z1).2.2
 refine(cCloneJ (hc.ext e1).pins (by omega)).mono fun v H2 e2 hv=> ?_
 obtain⟨a,n,c',rfl,hF⟩:=hv
 refine⟨a,n,c',rfl,fun hN2=> ?_⟩
 have hP:Pins H2 a n c.first.lock:=pins_of_row (hF.row hN2)
 have hc2:=(hc.ext e1).ext e2
 have fin:∀ {H':Heap} {g g1:Nat},Ext H2 H'->H' g=some (boxKB 24 [.int .i64 1,.slice a n c'])->H' g1=some (boxKB 95 (List.flatten (List.replicate (agentsOf c.waves).toNat [.int .i64 0,.int .i64 0,.bool false])))->
   ∃la ll lc ka kl kc,Value.tuple #[.agg #[.slice (some ⟨g,0,none⟩) 1 1,.int .i64 1,.int .i64 0,.bool false,.slice (some ⟨g1,0,none⟩) (agentsOf c.waves).toNat (agentsOf c.waves).toNat,.int .i64 1],.int .i64 0]= .tuple #[ldrArg (newLdr c) la ll lc ka kl kc,i64 0]/\LdrAt H' (newLdr c) la ll ka kl:=fun e hg hg1=>by
  refine⟨_,_,_,_,_,_,rfl,?_,?_⟩
  ·exact rels_box (m:=c.first) (by rw[z2];exact hg) (hP.ext' e) (rg_id z1)
  ·exact kns_box hg1 (by omega)
 intro b1
 refine⟨fun g H3 hN3 _ hg=> ?_,?_⟩
 ·refine(cAgents (hc2.ext hN3.ext)).int1 fun H4 e4 _=>⟨by omega,by omega,by omega,by omega,fun g1 H5 hN5 _ hg1=> ?_⟩
  exact fin ((Ext.trans hN3.ext e4).trans hN5.ext) (hN5.ext _ _ (e4 _ _ hg)) hg1
 ·refine(cAgents hc2).int1 fun H3 e3 _=>⟨fun g H4 hN4 _ hg=>⟨by omega,by omega,by omega,by omega,fun g1 H5 hN5 _ hg1=> ?_⟩,by omega,by omega,by omega,by omega,fun g H4 hN4 _ hg g1 H5 hN5 _ hg1=> ?_⟩
  ·exact fin ((e3.trans hN4.ext).trans hN5.ext) (hN5.ext _ _ hg) hg1
  ·exact fin ((e3.trans hN4.ext).trans hN5.ext) hg1 (hN5.ext _ _ hg)
def turnErr(c:Conf)(l:Ldr)(k:Int):Int:=if ldrErr c l≠0 then ldrErr c l else if k<0∨(l.ags.length:Int)<=k then 5 else if l.goal=0 then 7 else 0
def turnRel(c:Conf)(l:Ldr)(k:Int):Rls:=if turnErr c l k=0 then(l.rels[(goalOf l-1).toNat]?).getD ⟨0,[]⟩ else⟨0,[]⟩
def turnT(c:Conf)(l:Ldr)(k:Int):Bool:=if turnErr c l k=0 then turnOf c l k else false
theorem ags_six(hE:ldrErr c l=0):l.ags.length<=6/\(l.ags.length:Int)=agentsOf c.waves:=by
 obtain⟨g1,g2,g3,g4,g5,g6,g7⟩:=ldrErr_zero.1 hE
 have hag:(l.ags.length:Int)=agentsOf c.waves:=by
  by_cases q:(l.ags.length:Int)=agentsOf c.waves
  ·exact q
  ·exact absurd (.inr (.inr (.inl q))) g6
 have:=(agents_same (cfgErr_zero g1).2.2.2.2.2.2).2
 exact⟨by omega,hag⟩
theorem cTurnL(hc:CfgAt H c fa fl ra rl wa wl)(h:LdrAt H l la ll ka kl)(k:Int):Spec Tryz.prog 220 [cfgArg c fa fl fc ra rl rc wa wl wc,ldrArg l la ll lc ka kl kc,i64 k] H fun v H'=>∃a n c',v= .tuple #[.bool (turnT c l k),.agg #[.int .i64 (turnRel c l k).id,.slice a n c'],i64 (turnErr c l k)]/\Pins H' a n (turnRel c l k).lock:=by
 refine TryzvcJ Tryz.func220 (by kernel_rfl) (by kernel_rfl) _ rfl (fun base K=>vc80 c.first.id c.bud fa ra wa fl fc rl rc wl wc la ka ll lc kl kc l.now l.goal l.nx l.back k base H K) fun base hb=> ?_
 have bad:∀ {e:Int} {H':Heap},turnErr c l k=e->e≠0->∃a n c',Value.tuple #[.bool false,.agg #[.int .i64 0,.slice none 0 0],.int .i64 e]= .tuple #[.bool (turnT c l k),.agg #[.int .i64 (turnRel c l k).id,.slice a n c'],i64 (turnErr c l k)]/\Pins H' a n (turnRel c l k).lock:=fun he h0=>by
  have e1:turnT c l k=false:=by rw[turnT,if_neg (by omega)]
  have e2:turnRel c l k=⟨0,[]⟩:=by rw[turnRel,if_neg (by omega)]
  rw[e1,e2,he]
  exact⟨none,0,0,rfl,Sl.nil⟩
 intro b b1 b2
 have hkl:=h.ags.len
 have hll:=h.rels.len
 refine(cLdrCheck hc h).int1 fun H1 e1 _=>⟨fun q=>bad (by rw[turnErr,if_pos q]) q,fun q=> ?_⟩
 have q0:ldrErr c l=0:=Decidable.not_not.1 q
 obtain⟨g1,g2,g3,g4,g5,g6,g7⟩:=ldrErr_zero.1 q0
 unfold ldrRange at g5
 have h6:=ags_six q0
 refine⟨k<0∨(l.ags.length:Int)<=k,⟨fun w=>⟨rfl,fun _ _ h=>h,.inl w⟩,fun w=>⟨rfl,fun _ _ h=>h,by omega⟩⟩,fun w=>bad (by rw[turnErr,if_neg q,if_pos w]) (by omega),fun w=>⟨fun w2=>bad (by rw[turnErr,if_neg q,if_neg w,if_pos w2]) (by omega),fun w2=> ?_⟩⟩
 have hT0:turnErr c l k=0:=by rw[turnErr,if_neg q,if_neg w,if_neg w2]
 have hT1:turnT c l k=turnOf c l k:=by rw[turnT,if_pos hT0]
 have hlk:=rel_lock g4
 refine⟨fun hk=> ?_,fun hk=> ?_⟩
 all_goals
  rintro _ rfl
  rw[wrap_in (by omega) (by omega)]
  refine h.rels.rl e1 (by omega) (by omega) fun m ma mn mc hm hp=>fun b5=> ?_
  have hgo:l.rels[(goalOf l-1).toNat]?=some m:=by unfold goalOf;simp only[hk];simpa using hm
  have hT2:turnRel c l k=m:=by rw[turnRel,if_pos hT0,hgo];rfl
  have hml:=hlk m (List.mem_of_getElem? hm)
  have hpl:=hp.len
  refine(cTurn (hc.ext e1) (h.ext e1) h6.1 (k:=k) (by omega) (by omega)).bool1 fun H2 e2 _=>(cCloneJ (hp.ext' (e1.trans e2)) (by omega)).slF fun a5 n5 c5 H3 e3 hN3 hF=> ?_
  rw[hT0,hT1,hT2]
  exact⟨_,_,_,rfl,pins_of_row hF⟩
end
open Go Go.Proofs
open Go.Value renaming int → I, slice → S, bool → B, agg → A, tuple → T, pointer → P, string → Str
open Go.IntKind renaming i64 → Z, wrap → W
open Go.Addr renaming mk → D
open Go.Vg.Bx renaming mk → J
open Go.Vg renaming Next → X, Spec → Y, SpecO → YO
open Go.Vg.Heap renaming cell → C
open Int renaming toNat → N
theorem vc89(fid bud:Int)(fa ra wa:O)(fl fc rl rc wl wc:Nat)(a:O)(l c:Nat)(base:Nat)(H:Heap)(K:KT):
 (fV TryzMutsJ Tryz.f66 base H [.v (A #[I Z fid,S fa fl fc,S ra rl rc,S wa wl wc,I Z bud]),.v (S a l c)] [] K)=(
 (fun w7:LL=>(fun w6:AV=>∀b d:Nat,Y Tryz.prog 86 [A #[I Z fid,S fa fl fc,S ra rl rc,S wa wl wc,I Z bud]] H fun e g=>∃h i j k m n o p q r s,e=T #[A #[S h i j,I Z k,I Z m,B n,S o p q,I Z r],I Z s]/\(X base H g->∀t:Nat,(¬s=0->K (T #[A w6,I Z s]) [] g)/\(¬¬s=0->(200<(l:Int)->K (T #[A w6,I Z 2]) [] g)/\(¬200<(l:Int)->∃(u:LI)(v:LM),u [I Z 0,I Z s,I Z 0,A w6,A #[S h i j,I Z k,I Z m,B n,S o p q,I Z r]] g/\∀(w x y:Int)(z:O)(a1 b1:Nat)(c1 d1:Int)(e1:Bool)(f1:O)(g1 h1:Nat)(i1:Int)(j1:O)(k1 l1:Nat)(m1 n1:Int)(o1:Bool)(p1:O)(q1 r1:Nat)(s1:Int)(t1:Heap),(fun w5:AV=>(fun w4:AV=>X base H t1->u [I Z w,I Z x,I Z y,A w5,A w4] t1->(y<(l:Int)->∃u1 v1,a=some (D u1 v1 none)/\0<=y/\y<(l:Int)/\∃(w1 x1 y1 z1:Int)(a2:Bool)(b2:Int)(c2:O)(d2 e2:Nat),(C t1 u1 (v1+N y*7)=some (I Z w1)/\C t1 u1 (v1+N y*7+1)=some (I Z x1)/\C t1 u1 (v1+N y*7+2)=some (I Z y1)/\C t1 u1 (v1+N y*7+3)=some (I Z z1)/\C t1 u1 (v1+N y*7+4)=some (B a2)/\C t1 u1 (v1+N y*7+5)=some (I Z b2)/\C t1 u1 (v1+N y*7+6)=some (S c2 d2 e2)/\True)/\∀f2:Nat,Y Tryz.prog 144 [A #[I Z fid,S fa fl fc,S ra rl rc,S wa wl wc,I Z bud],A w4,A #[I Z w1,I Z x1,I Z y1,I Z z1,B a2,I Z b2,S c2 d2 e2]] t1 fun g2 h2=>∃(i2:O)(j2 k2:Nat)(l2 m2:Int)(n2:Bool)(o2:O)(p2 q2:Nat)(r2:Int),(fun w3:AV=>∃s2,g2=T #[A w3,I Z s2]/\(X base t1 h2->(¬s2=0->K (T #[A w6,I Z s2]) [] h2)/\(¬¬s2=0->∀t2:Int,(fun w2:LV=>t2=W Z (y+1)->w7=w7/\u w2 h2/\v w2<v [I Z w,I Z x,I Z y,A w5,A w4]) [I Z w,I Z s2,I Z t2,A w5,A w3]))) #[S i2 j2 k2,I Z l2,I Z m2,B n2,S o2 p2 q2,I Z r2])/\(¬y<(l:Int)->K (T #[A w4,I Z 0]) [] t1)) #[S j1 k1 l1,I Z m1,I Z n1,B o1,S p1 q1 r1,I Z s1]) #[S z a1 b1,I Z c1,I Z d1,B e1,S f1 g1 h1,I Z i1])))) #[S none 0 0,I Z 0,I Z 0,B false,S none 0 0,I Z 0]) [[I Z fid,S fa fl fc,S ra rl rc,S wa wl wc,I Z bud]]):=by kernel_rfl
theorem vc128(base:Nat)(H:Heap)(K:KT):
 (fV TryzMutsJ Tryz.f71 base H [] [] K)=(
 ∀(a b:Nat)(c:Heap),X base H c->H b=none->c b=some (boxKB 91 [I Z 1,I Z 1])->∀(d:Nat)(e:Heap),X base c e->c d=none->e d=some (boxKB 152 [I Z 1,I Z 2,I Z 2,I Z 1])->∀(g:Nat)(h:Heap),X base e h->e g=none->h g=some (boxKB 3 [I Z 1])->∀(i:Nat)(j:Heap),X base h j->h i=none->j i=some (boxKB 3 [I Z 0,I Z 2])->∀(k:Nat)(l:Heap),X base j l->j k=none->l k=some (boxKB 97 [S (some (D g 0 none)) 1 1,S (some (D i 0 none)) 2 2])->K (A #[I Z 1,S (some (D b 0 none)) 1 1,S (some (D d 0 none)) 1 1,S (some (D k 0 none)) 2 2,I Z 0]) [] l):=by kernel_rfl
open Go Go.Proofs
theorem vc79(fid bud:Int)(fa ra wa:O)(fl fc rl rc wl wc:Nat)(la ka:O)(ll lc kl kc:Nat)(now goal nx:Int)(back:Bool)(kd ag tr n id:Int)(gd:Bool)(qa:O)(ql qc:Nat)(base:Nat)(H:Heap)(K:KT):
 (fV TryzMutsJ Tryz.f144 base H [.v (A #[I Z fid,S fa fl fc,S ra rl rc,S wa wl wc,I Z bud]),.v (A #[S la ll lc,I Z now,I Z goal,B back,S ka kl kc,I Z nx]),.v (A #[I Z kd,I Z ag,I Z tr,I Z n,B gd,I Z id,S qa ql qc])] [] K)=(
 (fun w10:AV=>(fun w9:AV=>(fun w8:AV=>(fun w7:AV=>∀a b c d:Nat,Y Tryz.prog 197 [A #[I Z fid,S fa fl fc,S ra rl rc,S wa wl wc,I Z bud],A w10] H fun e g=>∃h,e=I Z h/\(X base H g->(¬h=0->K (T #[A #[S none 0 0,I Z 0,I Z 0,B false,S none 0 0,I Z 0],I Z h]) [] g)/\(¬¬h=0->Y Tryz.prog 198 [A #[I Z kd,I Z ag,I Z tr,I Z n,B gd,I Z id,S qa ql qc]] g fun i j=>∃k,(fun w6:AV=>i=I Z k/\(X base g j->Y Tryz.prog 170 [A w10] j fun l m=>∃o p q r s t u v w x,(fun w5:AV=>(fun w4:LL=>(fun w3:LL=>(fun w2:AV=>(fun w1:LB=>l=A #[S o p q,I Z r,I Z s,B t,S u v w,I Z x]/\(X base j m->(¬k=0->(¬k=0->K (T w6) [] m)/\(¬¬k=0->K (T w2) [] m))/\(¬¬k=0->(kd=4->∀y z:Nat,((p:Int)=6->(¬Int.ofNat 2=0->K (T #[A #[S none 0 0,I Z 0,I Z 0,B false,S none 0 0,I Z 0],I Z 2]) [] m)/\(¬¬Int.ofNat 2=0->K (T w2) [] m))/\(¬(p:Int)=6->∀a1:Int,a1=W Z ((p:Int)+1)->(¬id=a1->(¬Int.ofNat 7=0->K (T w7) [] m)/\(¬¬Int.ofNat 7=0->K (T w2) [] m))/\(¬¬id=a1->Y Tryz.prog 186 [S qa ql qc,S ra rl rc] m fun b1 c1=>∃d1 e1,b1=T #[I Z d1,I Z e1]/\(X base m c1->(¬e1=0->(¬e1=0->K (T #[A #[S none 0 0,I Z 0,I Z 0,B false,S none 0 0,I Z 0],I Z e1]) [] c1)/\(¬¬e1=0->K (T w2) [] c1))/\(¬¬e1=0->(0<=d1->(¬Int.ofNat 8=0->K (T #[A #[S none 0 0,I Z 0,I Z 0,B false,S none 0 0,I Z 0],I Z 8]) [] c1)/\(¬¬Int.ofNat 8=0->K (T w2) [] c1))/\(¬0<=d1->Y Tryz.prog 163 [S qa ql qc] c1 fun f1 g1=>∃h1 i1 j1,f1=S h1 i1 j1/\(X base c1 g1->∀(k1:Nat)(l1:Heap),X base g1 l1->g1 k1=none->l1 k1=some (boxKB 24 [I Z id,S h1 i1 j1])->∃m1 n1:List Value,Row base l1 24 2 o p q m1/\List.length n1=1*2/\allOne n1=true/\(1=0∨∃o1 p1,some (D k1 0 none)=some (D o1 p1 none)/\cellsAt l1 o1 p1 0 n1)/\(p+1)*32<=140737488355328/\p+1<=9223372036854775807/\∀(o1:O)(p1:Nat)(q1:Heap),Grew base l1 q1 o q o1 p1 (p+1)->Row base q1 24 2 o1 (p+1) p1 (m1++n1)->(¬Int.ofNat 0=0->K (T w8) [] q1)/\(¬¬Int.ofNat 0=0->K (T #[A #[S o1 (p+1) p1,I Z r,I Z s,B t,S u v w,I Z x],I Z 0]) [] q1))))))))/\(¬kd=4->(kd=5->(¬s=0->(¬Int.ofNat 7=0->K (T w7) []
 m)/\(¬¬Int.ofNat 7=0->K (T w2) [] m))/\(¬¬s=0->((p:Int)<n->(¬Int.ofNat 5=0->K (T w9) [] m)/\(¬¬Int.ofNat 5=0->K (T w2) [] m))/\(¬(p:Int)<n->(n=r->(¬Int.ofNat 6=0->K (T #[A #[S none 0 0,I Z 0,I Z 0,B false,S none 0 0,I Z 0],I Z 6]) [] m)/\(¬¬Int.ofNat 6=0->K (T w2) [] m))/\(¬n=r->(¬Int.ofNat 0=0->K (T w8) [] m)/\(¬¬Int.ofNat 0=0->K (T #[A #[S o p q,I Z r,I Z n,B t,S u v w,I Z x],I Z 0]) [] m)))))/\(¬kd=5->∃y:Prop,((kd=6->w1=w1/\SubH m m/\y)/\(¬kd=6->w1=w1/\SubH m m/\(y↔kd=7)))/\(y->∀z a1:Nat,((v:Int)<=ag->(¬Int.ofNat 5=0->K (T w9) [] m)/\(¬¬Int.ofNat 5=0->K (T w2) [] m))/\(¬(v:Int)<=ag->∃b1 c1,u=some (D b1 c1 none)/\0<=ag/\ag<(v:Int)/\(kd=7->∃d1,C m b1 (c1+N ag*3)=some (I Z d1)/\(¬d1=1->(¬Int.ofNat 7=0->K (T w7) [] m)/\(¬¬Int.ofNat 7=0->K (T w2) [] m))/\(¬¬d1=1->∃e1,C m b1 (c1+N ag*3+1)=some (I Z e1)/\(¬tr=e1->(¬Int.ofNat 7=0->K (T w7) [] m)/\(¬¬Int.ofNat 7=0->K (T w2) [] m))/\(¬¬tr=e1->∃f1:KB,m b1=some f1/\KB.free f1=true/\base<=b1/\c1+N ag*3+1<=KB.size f1/\∀g1:Heap,Upd m b1 (c1+N ag*3) f1 [I Z 3] g1->(gd=true->∃h1:KB,g1 b1=some h1/\KB.free h1=true/\base<=b1/\c1+N ag*3+1<=KB.size h1/\∀i1:Heap,Upd g1 b1 (c1+N ag*3) h1 [I Z 2] i1->(¬Int.ofNat 0=0->K (T w8) [] i1)/\(¬¬Int.ofNat 0=0->K (T w2) [] i1))/\(gd=false->(¬Int.ofNat 0=0->K (T w8) [] g1)/\(¬¬Int.ofNat 0=0->K (T w2) [] g1)))))/\(¬kd=7->(s=0->(¬Int.ofNat 7=0->K (T w7) [] m)/\(¬¬Int.ofNat 7=0->K (T w2) [] m))/\(¬s=0->(¬tr=x->(¬Int.ofNat 7=0->K (T w7) [] m)/\(¬¬Int.ofNat 7=0->K (T w2) [] m))/\(¬¬tr=x->Y Tryz.prog 231 [A #[I Z fid,S fa fl fc,S ra rl rc,S wa wl wc,I Z bud],A #[S o p q,I Z r,I Z s,B t,S u v w,I Z x],I Z ag] m fun d1 e1=>∃f1,d1=B f1/\(X base m e1->(f1=false->(¬Int.ofNat 7=0->K (T w7) [] e1)/\(¬¬Int.ofNat 7=0->K (T w2) [] e1))/\(¬f1=false->∃g1:KB,e1 b1=some g1/\KB.free g1=true/\base<=b1/\c1+N ag*3+3<=KB.size g1/\∀h1:Heap,Upd e1 b1 (c1+N ag*3) g1 [I Z 1,I Z tr,B t] h1->∀i1:Int,i1=W Z (x+1)->(¬Int.ofNat 0=0->K (T w8) []
 h1)/\(¬¬Int.ofNat 0=0->K (T #[A #[S o p q,I Z r,I Z s,B t,S u v w,I Z i1],I Z 0]) [] h1))))))))/\(¬y->(kd=8->∃z:Prop,((s=0->w1=w1/\SubH m m/\z)/\(¬s=0->w1=w1/\SubH m m/\(z↔t=true)))/\(z->(¬Int.ofNat 7=0->K (T w7) [] m)/\(¬¬Int.ofNat 7=0->K (T w5) [] m))/\(¬z->(¬k=0->K (T w6) [] m)/\(¬¬k=0->K (T w5) [] m)))/\(¬kd=8->(kd=9->∀z:Nat,(s=0->(¬Int.ofNat 7=0->K (T w7) [] m)/\(¬¬Int.ofNat 7=0->K (T w2) [] m))/\(¬s=0->Y Tryz.prog 232 [A #[I Z fid,S fa fl fc,S ra rl rc,S wa wl wc,I Z bud],A #[S o p q,I Z r,I Z s,B t,S u v w,I Z x]] m fun a1 b1=>∃c1,a1=B c1/\(X base m b1->(c1=false->(¬Int.ofNat 7=0->K (T w7) [] b1)/\(¬¬Int.ofNat 7=0->K (T w2) [] b1))/\(¬c1=false->(t=false->∃(d1:LI)(e1:LM),d1 [I Z 0] b1/\∀(f1:Int)(g1:Heap),X base H g1->d1 [I Z f1] g1->(f1<(v:Int)->∃h1 i1,u=some (D h1 i1 none)/\0<=f1/\f1<(v:Int)/\∃(j1 k1:Int)(l1:Bool),(C g1 h1 (i1+N f1*3)=some (I Z j1)/\C g1 h1 (i1+N f1*3+1)=some (I Z k1)/\C g1 h1 (i1+N f1*3+2)=some (B l1)/\True)/\∀m1:Nat,∃n1 o1,u=some (D n1 o1 none)/\0<=f1/\f1<(v:Int)/\∃p1:KB,g1 n1=some p1/\KB.free p1=true/\base<=n1/\o1+N f1*3+3<=KB.size p1/\∀q1:Heap,Upd g1 n1 (o1+N f1*3) p1 [I Z 0,I Z k1,B false] q1->∀r1:Int,r1=W Z (f1+1)->w3=w3/\d1 [I Z r1] q1/\e1 [I Z r1]<e1 [I Z f1])/\(¬f1<(v:Int)->(¬Int.ofNat 0=0->K (T w8) [] g1)/\(¬¬Int.ofNat 0=0->K (T #[A #[S o p q,I Z s,I Z 0,B false,S u v w,I Z x],I Z 0]) [] g1)))/\(¬t=false->∃(d1:LI)(e1:LM),d1 [I Z 0] b1/\∀(f1:Int)(g1:Heap),X base H g1->d1 [I Z f1] g1->(f1<(v:Int)->∃h1 i1,u=some (D h1 i1 none)/\0<=f1/\f1<(v:Int)/\∃(j1 k1:Int)(l1:Bool),(C g1 h1 (i1+N f1*3)=some (I Z j1)/\C g1 h1 (i1+N f1*3+1)=some (I Z k1)/\C g1 h1 (i1+N f1*3+2)=some (B l1)/\True)/\∀m1:Nat,∃n1 o1,u=some (D n1 o1 none)/\0<=f1/\f1<(v:Int)/\∃p1:KB,g1 n1=some p1/\KB.free p1=true/\base<=n1/\o1+N f1*3+3<=KB.size p1/\∀q1:Heap,Upd g1 n1 (o1+N f1*3) p1 [I Z 0,I Z k1,B false] q1->∀r1:Int,r1=W Z (f1+1)->w4=w4/\d1 [I Z r1] q1/\e1 [I Z r1]<e1 [I
 Z f1])/\(¬f1<(v:Int)->(¬Int.ofNat 0=0->K (T w8) [] g1)/\(¬¬Int.ofNat 0=0->K (T #[A #[S o p q,I Z r,I Z 0,B false,S u v w,I Z x],I Z 0]) [] g1)))))))/\(¬kd=9->(¬Int.ofNat 4=0->K (T #[A #[S none 0 0,I Z 0,I Z 0,B false,S none 0 0,I Z 0],I Z 4]) [] m)/\(¬¬Int.ofNat 4=0->K (T w2) [] m))))))))) [J a false 28 [I Z fid,S fa fl fc,S ra rl rc,S wa wl wc,I Z bud],J b false 32 [S o p q,I Z r,I Z s,B t,S u v w,I Z x],J c false 126 [I Z kd,I Z ag,I Z tr,I Z n,B gd,I Z id,S qa ql qc],J d false 32 [S none 0 0,I Z 0,I Z 0,B false,S none 0 0,I Z 0]]) #[A #[S o p q,I Z r,I Z s,B t,S u v w,I Z x],I Z 0]) [[I Z fid,S fa fl fc,S ra rl rc,S wa wl wc,I Z bud],[S o p q,I Z s,I Z 0,B false,S u v w,I Z x],[I Z kd,I Z ag,I Z tr,I Z n,B gd,I Z id,S qa ql qc],[S none 0 0,I Z 0,I Z 0,B false,S none 0 0,I Z 0],[I Z fid,S fa fl fc,S ra rl rc,S wa wl wc,I Z bud]]) [[I Z fid,S fa fl fc,S ra rl rc,S wa wl wc,I Z bud],[S o p q,I Z r,I Z 0,B false,S u v w,I Z x],[I Z kd,I Z ag,I Z tr,I Z n,B gd,I Z id,S qa ql qc],[S none 0 0,I Z 0,I Z 0,B false,S none 0 0,I Z 0],[I Z fid,S fa fl fc,S ra rl rc,S wa wl wc,I Z bud]]) #[A #[S o p q,I Z r,I Z s,B true,S u v w,I Z x],I Z 0])) #[A #[S none 0 0,I Z 0,I Z 0,B false,S none 0 0,I Z 0],I Z k]))) #[A #[S none 0 0,I Z 0,I Z 0,B false,S none 0 0,I Z 0],I Z 7]) #[A #[S none 0 0,I Z 0,I Z 0,B false,S none 0 0,I Z 0],I Z 0]) #[A #[S none 0 0,I Z 0,I Z 0,B false,S none 0 0,I Z 0],I Z 5]) #[S la ll lc,I Z now,I Z goal,B back,S ka kl kc,I Z nx]):=by kernel_rfl
open Go Go.Proofs
open Go Go.Proofs
open Go Go.Proofs
open Go Go.Proofs
section
variable {base : Nat} {G H H' : Heap} {l : Ldr} {la la' ka : O} {ll lc lc' kl kc : Nat} {rows : List (List Value)}
theorem OwnL.push(h:OwnL base G H l la ll lc ka kl kc rows){r:Rls}{a:O}{n c nn:Nat}(hp:Pins G a n r.lock)(hg:Rg r.id)(hn:nn=ll+1)(hG:Grew base H H' la lc la' lc' nn)(hR:Row base H' 24 2 la' nn lc' (rows.flatten++[i64 r.id,.slice a n c])):
  LdrAt H' { l with rels:=l.rels++[r] } la' nn ka kl:=by
 have h1:=h.rels.grew (rows':=[[i64 r.id,.slice a n c]]) (ys:=[r]) hG (by simpa using hR) (by simp) ⟨⟨a,n,c,rfl,hp,hg⟩,trivial⟩
 exact⟨h1.sl RRl.mono (by omega),kns_row (h.ags.stay hG h.apart).1⟩
theorem OwnL.put(h:OwnL base G H l la ll lc ka kl kc rows){k:Nat}{p q:Kn}(hp:l.ags[k]?=some p){f o:Nat}{vs:List Value}(hf:f+vs.length<=3)(hq:setRange (knCells p) f vs=knCells q){b:Nat}{kb:KB}(hka:ka=some ⟨b,0,none⟩)(hkc:kc≠0)(hb:H b=some kb)(ho:o=k*3+f)(hu:Upd H b o kb vs H'):
  OwnL base G H' { l with ags:=l.ags.set k q } la ll lc ka kl kc rows:=by
 refine⟨h.rels.other hu (fun w e=>h.apart w hkc (by rw[e,hka])) (h.clear hkc b hka),?_,h.apart,h.clear⟩
 have hl:=(kns_row h.ags).len
 have hkl:=(List.getElem?_eq_some_iff.1 hp).1
 have h1:=h.ags.upd hka hkc hb (o:=o) (vs:=vs) (by rw[h.ags.1,ho];omega) hu
 rw[ho,flat_field knCells_len hf hq hp] at h1
 exact h1
theorem OwnL.ag(h:OwnL base G H l la ll lc ka kl kc rows){k:Nat}{p:Kn}(hp:l.ags[k]?=some p):
  ∃(b:Nat)(kb:KB),ka=some ⟨b,0,none⟩/\base<=b/\kc≠0/\H b=some kb/\kb.free=true/\kb.size=kc*3/\k<kl/\kl<=kc/\∀(j:Nat)(v:Value),(knCells p)[j]?=some v->H.cell b (0+k*3+j)=some v:=by
 have hl:=(kns_row h.ags).len
 have hkl:=(List.getElem?_eq_some_iff.1 hp).1
 obtain⟨b,kb,h1,h2,h3,h4,h5,h6,_⟩:=h.ags.block (by omega)
 have hR:=h.ags
 rw[List.flatMap_def] at hR
 obtain⟨b',hb',hc⟩:=hR.at (i:=k) (r:=knCells p) (fun r hr=>by obtain⟨x,_,rfl⟩:=List.mem_map.1 hr;rfl) (by simp;omega) (by rw[List.getElem?_map,hp];rfl)
 obtain rfl:b=b':=by rw[h1] at hb';simpa using hb'
 exact⟨b,kb,h1,h2,h3,h4,h5,h6,by omega,hR.2.1,hc⟩
theorem OwnL.as{x y:Ldr}(h:OwnL base G H x la ll lc ka kl kc rows)(hr:x.rels=y.rels)(ha:x.ags=y.ags):OwnL base G H y la ll lc ka kl kc rows:=⟨hr▸h.rels,ha▸h.ags,h.apart,h.clear⟩
theorem LdrAt.as{x y:Ldr}(h:LdrAt H x la ll ka kl)(hr:x.rels=y.rels)(ha:x.ags=y.ags):LdrAt H y la ll ka kl:=⟨hr▸h.rels,ha▸h.ags⟩
end
theorem rec_zero{r:Recd}(h:recErr r=0):(1<=r.kind/\r.kind<=9)/\¬recForm r/\¬recRange r/\(r.kind=1∨r.kind=4->relErr r.rel=0):=by
 unfold recErr at h
 split at h
 ·omega
 ·split at h
  ·omega
  ·split at h
   ·omega
   ·rename_i h1 h2 h3
    refine⟨by omega,h2,h3,fun hk=> ?_⟩
    rw[if_pos hk] at h;exact h
def clr(a:Kn):Kn:=⟨0,a.try_,false⟩
theorem clr_at{xs:List Kn}{i:Nat}{m:Kn}(hm:xs[i]?=some m):((xs.take i).map clr++xs.drop i).set i (clr m)=(xs.take (i+1)).map clr++xs.drop (i+1):=by
 have hi:=(List.getElem?_eq_some_iff.1 hm).1
 rw[drop_at hm,take_at hm,List.set_append_right _ _ (by simp;omega)]
 simp[Nat.min_eq_left (Nat.le_of_lt hi)]
theorem clr_get{xs:List Kn}{i:Nat}{m:Kn}(hm:xs[i]?=some m):((xs.take i).map clr++xs.drop i)[i]?=some m:=by
 have hi:=(List.getElem?_eq_some_iff.1 hm).1
 rw[List.getElem?_append_right (by simp;omega)]
 simp[Nat.min_eq_left (Nat.le_of_lt hi),hm]
section
variable {H : Heap} {c : Conf} {fa ra wa qa : O} {fl fc rl rc wl wc ql qc : Nat} {l : Ldr} {la ka : O} {ll lc kl kc : Nat} {r : Recd}
theorem cNextL2(hc:CfgAt H c fa fl ra rl wa wl)(h:LdrAt H l la ll ka kl)(hr:Pins H qa ql r.rel.lock):
  Spec Tryz.prog 144 [cfgArg c fa fl fc ra rl rc wa wl wc,ldrArg l la ll lc ka kl kc,recArg r qa ql qc] H fun v H'=>∃la ll lc ka kl kc,v= .tuple #[ldrArg (ledV c l r) la ll lc ka kl kc,i64 (ledErr c l r)]/\LdrAt H' (ledV c l r) la ll ka kl/\ll<=lc:=by
 refine TryzvcJ Tryz.func144 (by kernel_rfl) (by kernel_rfl) _ rfl (fun base K=>vc79 c.first.id c.bud fa ra wa fl fc rl rc wl wc la ka ll lc kl kc l.now l.goal l.nx l.back r.kind r.agent r.try_ r.num r.rel.id r.good qa ql qc base H K) fun base hb=> ?_
 have bad:∀ {e:Int} {H':Heap},ledErr c l r=e->e≠0->∃la ll lc ka kl kc,Value.tuple #[.agg #[.slice none 0 0,.int .i64 0,.int .i64 0,.bool false,.slice none 0 0,.int .i64 0],.int .i64 e]= .tuple #[ldrArg (ledV c l r) la ll lc ka kl kc,i64 (ledErr c l r)]/\LdrAt H' (ledV c l r) la ll ka kl/\ll<=lc:=fun he h0=>by
  have:ledV c l r=noLdr:=by rw[ledV,if_neg (by omega)]
  rw[this,he];exact⟨none,0,0,none,0,0,rfl,⟨Sl.nil,Sl.nil⟩,by omega⟩
 have good:∀ {X:Ldr} {H':Heap} {la ll lc ka kl kc},ledErr c l r=0->ledNext l r=X->LdrAt H' X la ll ka kl->ll<=lc->∃la' ll' lc' ka' kl' kc',Value.tuple #[ldrArg X la ll lc ka kl kc,.int .i64 0]= .tuple #[ldrArg (ledV c l r) la' ll' lc' ka' kl' kc',i64 (ledErr c l r)]/\LdrAt H' (ledV c l r) la' ll' ka' kl'/\ll'<=lc':=fun he hX hA hle=>by
  have:ledV c l r=ledNext l r:=by rw[ledV,if_pos he]
  rw[this,he,hX];exact⟨_,_,_,_,_,_,rfl,hA,hle⟩
 intro b b1 b2 b3
 refine(cLdrCheck hc h).int1 fun H1 e1 _=>⟨fun q=>bad (by rw[ledErr,if_pos q]) q,fun q=> ?_⟩
 have q0:ldrErr c l=0:=Decidable.not_not.1 q
 obtain⟨g1,g2,g3,g4,g5,g6,g7⟩:=ldrErr_zero.1 q0
 unfold ldrRange at g5
 have h6:=ags_six q0
 have hlk:=rel_lock g4
 have hkl:=h.ags.len
 have hll:=h.rels.len
 refine(cRecCheck (hr.ext' e1)).int1 fun H2 e2 _=> ?_
 have E2:=e1.trans e2
 refine(cCopyL (h.ext E2) (by omega) (by omega) (fun m hm=>by have:=(hlk m hm).2;omega)).mono fun v H3 e3 hv=> ?_
 obtain⟨la',ll',lc',ka',kl',kc',G,rows,rfl,hNew⟩:=hv
 refine⟨la',ll',lc',_,_,_,ka',kl',kc',_,rfl,fun hN3=> ?_⟩
 have E3:=E2.trans e3
 have hO:=hNew.own hN3
 have hll':=hO.at_.rels.len
 have hkl':=hO.at_.ags.len
 refine⟨fun q2=>⟨fun _=>bad (by rw[ledErr,if_neg q,if_pos q2]) q2,fun w=>absurd q2 w⟩,fun q2=> ?_⟩
 have q20:recErr r=0:=Decidable.not_not.1 q2
 have E:∀ {P:Int},ledKind c l r=P->ledErr c l r=P:=fun he=>by rw[ledErr,if_neg q,if_neg q2,he]
 obtain⟨z1,z2,z3,z4⟩:=rec_zero q20
 have hra:0<=r.agent:=by unfold recRange at z3;omega
 refine⟨fun k4=> ?_,fun k4=>⟨fun k5=> ?_,fun k5=> ?_⟩⟩
 ·have hr0:relErr r.rel=0:=z4 (.inr k4)
  intro b4 b5
  refine⟨fun w=>⟨fun _=>bad (E (by rw[ledKind,if_pos k4,if_pos (by omega)])) (by decide),fun w=>absurd (by decide) w⟩,fun w=> ?_⟩
  rintro _ rfl
  rw[wrap_in (by omega) (by omega)]
  refine⟨fun w2=>⟨fun _=>bad (E (by rw[ledKind,if_pos k4,if_neg (by omega),if_pos (by omega)])) (by decide),fun w=>absurd (by decide) w⟩,fun w2=> ?_⟩
  refine(cBroken (hr.ext' E3) (hc.ext E3).rules).int2 fun H4 e4 _=>⟨fun w3=>⟨fun _=>bad (E (by rw[ledKind,if_pos k4,if_neg (by omega),if_neg (by omega),if_pos w3])) w3,fun w=>absurd w3 w⟩,fun w3=>⟨fun w4=>⟨fun _=>bad (E (by rw[ledKind,if_pos k4,if_neg (by omega),if_neg (by omega),if_neg w3,if_pos w4])) (by decide),fun w=>absurd (by decide) w⟩,fun w4=> ?_⟩⟩
  have hE0:ledErr c l r=0:=E (by rw[ledKind,if_pos k4,if_neg (by omega),if_neg (by omega),if_neg w3,if_neg w4])
  have hrl:=hr.len
  have hr12:=(relErr_zero hr0).2.2
  refine(cCloneJ (hr.ext' (E3.trans e4)) (by omega)).mono fun v H5 e5 hv=> ?_
  obtain⟨a5,n5,c5,rfl,hF⟩:=hv
  refine⟨a5,n5,c5,rfl,fun hN5 g H6 hN6 _ hg=> ?_⟩
  have hO6:=((hO.rels.ext e4).grow RRl.mono e5).ext hN6.ext
  have hP:Pins (G.plus (newOf H4 H5)) a5 n5 r.rel.lock:=Sl.ext REnc.mono (hF.sl_new pinCells_len (by omega)) (new_in_grow (hO.rels.sub.trans e4))
  have hOL:OwnL base (G.plus (newOf H4 H5)) H6 l la' ll' lc' ka' kl' kc' rows:=⟨hO6,((hO.ags.ext e4).ext e5).ext hN6.ext,hO.apart,fun w g hg=>by
   obtain⟨kb,hkb⟩:∃kb,H4 g=some kb:=by
    rcases(hO.ags.ext e4).2.2.2 with⟨_,h0⟩|⟨g',k',u1,_,u3,_⟩
    ·exact absurd h0 w
    ·rw[hg] at u1;simp at u1;subst u1;exact⟨k',u3⟩
   unfold Heap.plus newOf
   rw[hO.clear w g hg,hkb]⟩
  refine⟨rows.flatten,[i64 r.rel.id,.slice a5 n5 c5],hO6.row,rfl,rfl,.inr ⟨g,0,rfl,box_cellsAt hg⟩,by omega,by omega,fun a7 c7 H7 hG hR7=>⟨fun w=>absurd rfl w,fun _=> ?_⟩⟩
  exact good (X:= { l with rels:=l.rels++[r.rel] }) hE0 (by rw[ledNext,if_pos k4]) (hOL.push hP (rg_id hr0) rfl hG hR7) hR7.2.1
 ·refine⟨fun w=>⟨fun _=>bad (E (by rw[ledKind,if_neg k4,if_pos k5,if_pos w])) (by decide),fun w=>absurd (by decide) w⟩,fun w=>⟨fun w2=>⟨fun _=>bad (E (by rw[ledKind,if_neg k4,if_pos k5,if_neg w,if_pos (by omega)])) (by decide),fun w=>absurd (by decide) w⟩,fun w2=>⟨fun w3=>⟨fun _=>bad (E (by rw[ledKind,if_neg k4,if_pos k5,if_neg w,if_neg (by omega),if_pos w3])) (by decide),fun w=>absurd (by decide) w⟩,fun w3=>⟨fun w=>absurd rfl w,fun _=> ?_⟩⟩⟩⟩
  exact good (X:= { l with goal:=r.num }) (E (by rw[ledKind,if_neg k4,if_pos k5,if_neg w,if_neg (by omega),if_neg w3])) (by rw[ledNext,if_neg k4,if_pos k5]) (hO.at_.as rfl rfl) hO.rels.row.2.1
 refine⟨r.kind=6∨r.kind=7,⟨fun w=>⟨rfl,fun _ _ h=>h,.inl w⟩,fun w=>⟨rfl,fun _ _ h=>h,by omega⟩⟩,fun k67=> ?_,fun k67=>⟨fun k8=> ?_,fun k8=>⟨fun k9=> ?_,fun k9=> ?_⟩⟩⟩
 ·intro b4 b5
  refine⟨fun w=>⟨fun _=>bad (E (by rw[ledKind,if_neg k4,if_neg k5,if_pos k67,if_pos (by omega)])) (by decide),fun w=>absurd (by decide) w⟩,fun w=> ?_⟩
  obtain⟨p,hp⟩:∃p,l.ags[r.agent.toNat]?=some p:=⟨_,List.getElem?_eq_getElem (by omega)⟩
  obtain⟨b6,kb,t1,t2,t3,t4,t5,t6,t7,t8,t9⟩:=hO.ag hp
  refine⟨b6,0,t1,hra,by omega,fun k7=> ?_,fun k7=> ?_⟩
  ·refine⟨p.st,t9 0 _ rfl,fun w2=>⟨fun _=>bad (E (by rw[ledKind,if_neg k4,if_neg k5,if_pos k67,if_neg (by omega),if_pos k7,hp];exact if_pos (.inl w2))) (by decide),fun w=>absurd (by decide) w⟩,fun w2=>⟨p.try_,t9 1 _ rfl,fun w3=>⟨fun _=>bad (E (by rw[ledKind,if_neg k4,if_neg k5,if_pos k67,if_neg (by omega),if_pos k7,hp];exact if_pos (.inr w3))) (by decide),fun w=>absurd (by decide) w⟩,fun w3=> ?_⟩⟩
   have hE0:ledErr c l r=0:=E (by rw[ledKind,if_neg k4,if_neg k5,if_pos k67,if_neg (by omega),if_pos k7,hp];exact if_neg (by rintro(x|x);exact w2 x;exact w3 x))
   have hNX:ledNext l r= { l with ags:=l.ags.set r.agent.toNat (got r p) } :=by rw[ledNext,if_neg k4,if_neg k5,if_neg (by omega),if_pos k7,hp]
   refine⟨kb,t4,t5,t2,by omega,fun H4 hu=> ?_⟩
   have hO4:=hO.put (q:=⟨3,p.try_,p.back⟩) hp (f:=0) (by simp) rfl t1 t3 t4 (by omega) hu
   refine⟨fun hgd=> ?_,fun hgd=>⟨fun w=>absurd rfl w,fun _=>good (X:= { l with ags:=l.ags.set r.agent.toNat (got r p) }) hE0 hNX (hO4.at_.as rfl (by simp[got,hgd])) hO4.rels.row.2.1⟩⟩
   refine⟨_,hu.here,t5,t2,by show _<=kb.size;omega,fun H5 hu2=> ?_⟩
   have hp5:(l.ags.set r.agent.toNat ⟨3,p.try_,p.back⟩)[r.agent.toNat]?=some ⟨3,p.try_,p.back⟩:=by rw[List.getElem?_set_self (by omega)]
   have hO5:=hO4.put (q:=⟨2,p.try_,p.back⟩) hp5 (f:=0) (by simp) rfl t1 t3 hu.here (by omega) hu2
   exact⟨fun w=>absurd rfl w,fun _=>good (X:= { l with ags:=l.ags.set r.agent.toNat (got r p) }) hE0 hNX (hO5.at_.as rfl (by simp[got,hgd])) hO5.rels.row.2.1⟩
  ·have k6:r.kind=6:=by omega
   have lateE:(l.goal=0∨r.try_≠l.nx∨turnOf c l r.agent=false)->ledErr c l r=7:=fun w=>E (by rw[ledKind,if_neg k4,if_neg k5,if_pos k67,if_neg (by omega),if_neg k7,if_pos w])
   refine⟨fun w2=>⟨fun _=>bad (lateE (.inl w2)) (by decide),fun w=>absurd (by decide) w⟩,fun w2=>⟨fun w3=>⟨fun _=>bad (lateE (.inr (.inl w3))) (by decide),fun w=>absurd (by decide) w⟩,fun w3=> ?_⟩⟩
   have w3':r.try_=l.nx:=Decidable.not_not.1 w3
   refine(cTurn (hc.ext E3) hO.at_ h6.1 hra (by omega)).bool1 fun H4 e4 _=>⟨fun w4=>⟨fun _=>bad (lateE (.inr (.inr w4))) (by decide),fun w=>absurd (by decide) w⟩,fun w4=> ?_⟩
   refine⟨kb,e4 _ _ t4,t5,t2,by omega,fun H5 hu=> ?_⟩
   rintro _ rfl
   rw[wrap_in (by omega) (by omega)]
   have hO5:=(hO.ext e4).put (q:=⟨1,r.try_,l.back⟩) hp (f:=0) (by simp) rfl t1 t3 (e4 _ _ t4) (by omega) hu
   refine⟨fun w=>absurd rfl w,fun _=>good (X:= { l with ags:=l.ags.set r.agent.toNat ⟨1,r.try_,l.back⟩,nx:=l.nx+1 }) (E (by rw[ledKind,if_neg k4,if_neg k5,if_pos k67,if_neg (by omega),if_neg k7,if_neg (by rintro(x|x|x);exact w2 x;exact w3 x;exact w4 x)])) (by rw[ledNext,if_neg k4,if_neg k5,if_pos k6]) (hO5.at_.as rfl rfl) hO5.rels.row.2.1⟩
 ·refine⟨l.goal=0∨l.back=true,⟨fun w=>⟨rfl,fun _ _ h=>h,.inl w⟩,fun w=>⟨rfl,fun _ _ h=>h,⟨fun x=>x.resolve_left w,.inr⟩⟩⟩,fun w=>⟨fun _=>bad (E (by rw[ledKind,if_neg k4,if_neg k5,if_neg k67,if_pos k8,if_pos w])) (by decide),fun w=>absurd (by decide) w⟩,fun w=> ?_⟩
  rw[q20]
  exact⟨fun w=>absurd rfl w,fun _=>good (X:= { l with back:=true }) (E (by rw[ledKind,if_neg k4,if_neg k5,if_neg k67,if_pos k8,if_neg w])) (by rw[ledNext,if_neg k4,if_neg k5,if_neg (by omega),if_neg (by omega),if_pos k8]) (hO.at_.as rfl rfl) hO.rels.row.2.1⟩
 ·intro b4
  refine⟨fun w=>⟨fun _=>bad (E (by rw[ledKind,if_neg k4,if_neg k5,if_neg k67,if_neg k8,if_pos k9,if_pos (.inl w)])) (by decide),fun w=>absurd (by decide) w⟩,fun w=> ?_⟩
  refine(cOver (hc.ext E3) hO.at_ h6.1).bool1 fun H4 e4 _=>⟨fun w2=>⟨fun _=>bad (E (by rw[ledKind,if_neg k4,if_neg k5,if_neg k67,if_neg k8,if_pos k9,if_pos (.inr w2)])) (by decide),fun w=>absurd (by decide) w⟩,fun w2=> ?_⟩
  have hE0:ledErr c l r=0:=E (by rw[ledKind,if_neg k4,if_neg k5,if_neg k67,if_neg k8,if_pos k9,if_neg (by rintro(x|x);exact w x;exact w2 x)])
  have hNX:ledNext l r= { l with now:=(if l.back=false then l.goal else l.now),goal:=0,back:=false,ags:=l.ags.map fun a=>⟨0,a.try_,false⟩ } :=by rw[ledNext,if_neg k4,if_neg k5,if_neg (by omega),if_neg (by omega),if_neg k8]
  refine⟨fun w3=> ?_,fun w3=> ?_⟩
  all_goals
   refine⟨fun vs Hc=>∃i:Nat,vs=[i64 i]/\i<=kl'/\OwnL base G Hc { l with ags:=(l.ags.take i).map clr++l.ags.drop i } la' ll' lc' ka' kl' kc' rows,upTo kl' 0,⟨0,rfl,by omega,(hO.ext e4).as rfl rfl⟩,fun m H5 hN5 hI=> ?_⟩
   obtain⟨i,hvs,hi,hOi⟩:=hI
   obtain rfl:m=(i:Int):=by simpa using hvs
   refine⟨fun hlt=> ?_,fun hge=> ?_⟩
   ·obtain⟨p,hp⟩:∃p,l.ags[i]?=some p:=⟨_,List.getElem?_eq_getElem (by omega)⟩
    obtain⟨b6,kb,t1,t2,t3,t4,t5,t6,t7,t8,t9⟩:=hOi.ag (clr_get hp)
    refine⟨b6,0,t1,by omega,hlt,p.st,p.try_,p.back,⟨t9 0 _ rfl,t9 1 _ rfl,t9 2 _ rfl,trivial⟩,fun b7=>⟨b6,0,t1,by omega,hlt,kb,t4,t5,t2,by rw[Int.toNat_natCast];omega,fun H6 hu=> ?_⟩⟩
    rw[Int.toNat_natCast] at hu
    rintro _ rfl
    rw[wrap_in (by omega) (by omega)]
    have hO6:=hOi.put (q:=clr p) (clr_get hp) (f:=0) (by simp) rfl t1 t3 t4 (by omega) hu
    exact⟨rfl,⟨i+1,rfl,by omega,hO6.as rfl (clr_at hp)⟩,by simp[upTo];omega⟩
   ·refine⟨fun w=>absurd rfl w,fun _=> ?_⟩
    rw[List.take_of_length_le (by omega),List.drop_eq_nil_of_le (by omega),List.append_nil] at hOi
    first
    |exact good (X:= { l with now:=l.goal,goal:=0,back:=false,ags:=l.ags.map clr }) hE0 (by rw[hNX,if_pos w3];rfl) (hOi.at_.as rfl rfl) hOi.rels.row.2.1
    |exact good (X:= { l with now:=l.now,goal:=0,back:=false,ags:=l.ags.map clr }) hE0 (by rw[hNX,if_neg w3];rfl) (hOi.at_.as rfl rfl) hOi.rels.row.2.1
 ·exact⟨fun _=>bad (E (by rw[ledKind,if_neg k4,if_neg k5,if_neg k67,if_neg k8,if_neg k9])) (by decide),fun w=>absurd (by decide) w⟩
theorem cNextL(hc:CfgAt H c fa fl ra rl wa wl)(h:LdrAt H l la ll ka kl)(hr:Pins H qa ql r.rel.lock):
  Spec Tryz.prog 144 [cfgArg c fa fl fc ra rl rc wa wl wc,ldrArg l la ll lc ka kl kc,recArg r qa ql qc] H fun v H'=>∃la ll lc ka kl kc,v= .tuple #[ldrArg (ledV c l r) la ll lc ka kl kc,i64 (ledErr c l r)]/\LdrAt H' (ledV c l r) la ll ka kl:=
 (cNextL2 hc h hr).mono fun v H' _ ⟨la,ll,lc,ka,kl,kc,h1,h2,_⟩=>⟨la,ll,lc,ka,kl,kc,h1,h2⟩
end
open Go Go.Proofs
open Go Go.Proofs
section
variable {H : Heap} {c : Conf} {fa ra wa : O} {fl fc rl rc wl wc : Nat}
theorem cReplayL{a:O}{n k:Nat}{rs:List Recd}(hc:CfgAt H c fa fl ra rl wa wl)(hr:Recs H a n rs):
  Spec Tryz.prog 66 [cfgArg c fa fl fc ra rl rc wa wl wc,.slice a n k] H fun v H'=>∃la ll lc ka kl kc,v= .tuple #[ldrArg (okLd (ledReplay c rs)) la ll lc ka kl kc,i64 (errOf (ledReplay c rs))]/\LdrAt H' (okLd (ledReplay c rs)) la ll ka kl:=by
 refine TryzvcJ Tryz.func66 (by kernel_rfl) (by kernel_rfl) _ rfl (fun base K=>vc89 c.first.id c.bud fa ra wa fl fc rl rc wl wc a n k base H K) fun base hb=> ?_
 have hrl:=hr.len
 have bad:∀ {e:Int} {H':Heap},ledReplay c rs= .error e->∃la ll lc ka kl kc,Value.tuple #[.agg #[.slice none 0 0,.int .i64 0,.int .i64 0,.bool false,.slice none 0 0,.int .i64 0],.int .i64 e]= .tuple #[ldrArg (okLd (ledReplay c rs)) la ll lc ka kl kc,i64 (errOf (ledReplay c rs))]/\LdrAt H' (okLd (ledReplay c rs)) la ll ka kl:=fun he=>by
  rw[he];exact⟨none,0,0,none,0,0,rfl,Sl.nil,Sl.nil⟩
 intro b b'
 refine(cNewL hc).ldr fun la1 ll1 lc1 ka1 kl1 kc1 H1 e1 _ hA1=>fun b2=>⟨fun h=>bad (by rw[ledReplay,if_pos h]),fun h=>⟨fun h200=>bad (by rw[ledReplay,if_neg h,if_pos (by omega)]),fun h200=> ?_⟩⟩
 rw[if_pos (Decidable.not_not.1 h)] at hA1⊢
 have hW:ledReplay c rs=ledFrom c (newLdr c) rs:=by rw[ledReplay,if_neg h,if_neg (by omega)]
 rw[hW] at bad⊢
 refine⟨fun vs Hc=>∃(y:Ldr)(la:O)(ll lc:Nat)(ka:O)(kl kc:Nat)(d e:Int)(w:Value)(i:Nat),vs=[i64 d,i64 e,i64 i,w,ldrArg y la ll lc ka kl kc]/\LdrAt Hc y la ll ka kl/\i<=n/\ledFrom c y (rs.drop i)=ledFrom c (newLdr c) rs,upTo n 2,
  ⟨newLdr c,la1,ll1,lc1,ka1,kl1,kc1,0,_,_,0,rfl,hA1,by omega,rfl⟩,fun d e m a6 n8 c3 n9 n10 b0 a7 n11 c4 n12 a8 n13 c5 n14 n15 b4 a9 n16 c6 n17 H' hN hI=> ?_⟩
 obtain⟨y,ya,yn,yc,yka,ykn,ykc,d',e',w,i,hvs,hA,hi,hI⟩:=hI
 obtain⟨rfl,rfl,rfl,rfl,⟨rfl,rfl,rfl⟩,rfl,rfl,rfl,⟨rfl,rfl,rfl⟩,rfl⟩:d=d'/\e=e'/\m=(i:Int)/\Value.agg #[.slice a6 n8 c3,.int .i64 n9,.int .i64 n10,.bool b0,.slice a7 n11 c4,.int .i64 n12]=w/\(a8=ya/\n13=yn/\c5=yc)/\n14=y.now/\n15=y.goal/\b4=y.back/\(a9=yka/\n16=ykn/\c6=ykc)/\n17=y.nx:=by simpa using hvs
 refine⟨fun hlt=>hr.recd hN.ext (by omega) hlt fun r ra rn rc hm hq=>fun b8=> ?_,fun hge=> ?_⟩
 ·rw[Int.toNat_natCast] at hm
  rw[drop_at hm,ledFrom] at hI
  refine(cNextL (hc.ext hN.ext) hA (hq.ext' hN.ext)).ldr fun la2 ll2 lc2 ka2 kl2 kc2 H2 e2 _ hA2=>⟨fun h=> ?_,fun h=> ?_⟩
  ·rw[if_neg h] at hI
   exact bad hI.symm
  ·have h0:ledErr c y r=0:=Decidable.not_not.1 h
   rw[if_pos h0] at hI
   have hV:ledV c y r=ledNext y r:=by rw[ledV,if_pos h0]
   rw[hV] at hA2⊢
   rintro q rfl
   rw[wrap_in (by omega) (by omega)]
   exact⟨rfl,⟨ledNext y r,la2,ll2,lc2,ka2,kl2,kc2,_,_,_,i+1,rfl,hA2,by omega,hI⟩,by simp[upTo];omega⟩
 ·rw[drop_all hrl (by omega),ledFrom] at hI
  rw[←hI]
  exact⟨_,_,_,_,_,_,rfl,hA⟩
end
theorem sl_of_rows{α:Type}{R:Rep α}{sz:Nat}{H:Heap}{g:Nat}{ty:TypeId}{rs:List (List Value)}{xs:List α}{n:Nat}(h:H g=some (boxKB ty rs.flatten))(hw:∀r∈rs,r.length=sz)(ha:AllR R H rs xs)(hn:rs.length=n)(hle:(n:Int)<=9223372036854775807):Sl R sz H (some ⟨g,0,none⟩) n xs:=
 Sl.of_has (rows:=rs) (Has.of_box h rfl hw hn hle) ha.len fun i r x hr hx=>ha.get hr hx
def cS:Conf:=⟨⟨1,[⟨1,1⟩]⟩,[⟨1,2,2,1⟩],[[1],[0,2]],0⟩
def s2:Rls:=⟨2,[⟨1,2⟩,⟨2,1⟩]⟩
def s3:Rls:=⟨3,[⟨1,2⟩]⟩
def q1:Recd:=⟨4,0,0,0,false,s2⟩
def q2:Recd:=⟨5,0,0,2,false,⟨0,[]⟩⟩
def q3:Recd:=⟨6,1,1,0,false,⟨0,[]⟩⟩
def q4:Recd:=⟨7,1,1,0,false,⟨0,[]⟩⟩
def u1:Recd:=⟨6,0,2,0,false,⟨0,[]⟩⟩
def u2:Recd:=⟨8,0,0,0,false,⟨0,[]⟩⟩
def u3:Recd:=⟨4,0,0,0,false,s3⟩
theorem cSmall{H:Heap} :Spec Tryz.prog 71 [] H fun v H'=>∃a n c a1 n1 c1 a2 n2 c2,v=cfgArg cS a n c a1 n1 c1 a2 n2 c2/\CfgAt H' cS a n a1 n1 a2 n2:=by
 refine TryzvcJ Tryz.func71 (by kernel_rfl) (by kernel_rfl) _ rfl (fun base K=>vc128 base H K) fun base hb=> ?_
 intro b g H1 hN1 _ hg g1 H2 hN2 _ hg1 g2 H3 hN3 _ hg2 g3 H4 hN4 _ hg3 g4 H5 hN5 _ hg4
 have e5:=hN5.ext
 have e45:=Ext.trans hN4.ext hN5.ext
 have e35:=Ext.trans hN3.ext e45
 have e25:=Ext.trans hN2.ext e35
 refine⟨_,_,_,_,_,_,_,_,_,rfl,?_,?_,?_⟩
 ·exact sl_of_boxE pinCells_len (xs:=[⟨1,1⟩]) (e25 _ _ hg) rfl (by decide)
 ·exact sl_of_boxE ruleCells_len (xs:=[⟨1,2,2,1⟩]) (e35 _ _ hg1) rfl (by decide)
 ·refine sl_of_rows (rs:=[[.slice (some ⟨g2,0,none⟩) 1 1],[.slice (some ⟨g3,0,none⟩) 2 2]]) hg4 (by simp) ⟨⟨_,_,_,rfl,?_⟩,⟨_,_,_,rfl,?_⟩,trivial⟩ rfl (by decide)
  ·exact ints_of_box (xs:=[1]) (e45 _ _ hg2) rfl (by decide)
  ·exact ints_of_box (xs:=[0,2]) (e5 _ _ hg3) rfl (by decide)
theorem Spec.turn{P:Program}{f:FuncId}{args:List Value}{H:Heap}{t:Bool}{x:Rls}{e:Int}(h:Spec P f args H fun v H'=>∃a n c',v= .tuple #[.bool t,.agg #[.int .i64 x.id,.slice a n c'],i64 e]/\Pins H' a n x.lock){base:Nat}
  {G:Bool->Int->O->Nat->Nat->Int->Heap->Prop} (hG:∀a n c H',Ext H H'->Next base H H'->Pins H' a n x.lock->G t x.id a n c e H'):
  Spec P f args H fun v H'=>∃(t:Bool)(id:Int)(a:O)(n c:Nat)(e:Int),v= .tuple #[.bool t,.agg #[.int .i64 id,.slice a n c],.int .i64 e]/\(Next base H H'->G t id a n c e H'):=
 h.mono fun v H' ex hv=>by
  obtain⟨a,n,c,h1,h2⟩:=hv
  exact⟨_,_,a,n,c,_,h1,fun hN=>hG a n c H' ex hN h2⟩
open Go Go.Proofs
theorem form_parts{c:Conf}{l:Ldr}(h:¬ldrForm c l):l.goal≠l.now/\¬(l.goal=0/\l.back=true)/\(l.ags.length:Int)=agentsOf c.waves/\l.rels[0]?=some c.first:=by
 refine⟨fun q=>h (.inl q),fun q=>h (.inr (.inl q)),?_,?_⟩
 ·by_cases q:(l.ags.length:Int)=agentsOf c.waves
  ·exact q
  ·exact absurd (.inr (.inr (.inl q))) h
 ·by_cases q:l.rels[0]?=some c.first
  ·exact q
  ·exact absurd (.inr (.inr (.inr q))) h
theorem form_of{c:Conf}{l:Ldr}(h1:l.goal≠l.now)(h2:¬(l.goal=0/\l.back=true))(h3:(l.ags.length:Int)=agentsOf c.waves)(h4:l.rels[0]?=some c.first):¬ldrForm c l:=by
 rintro(q|q|q|q)
 ·exact h1 q
 ·exact h2 q
 ·exact q h3
 ·exact q h4
theorem new_ok{c:Conf}(h:cfgErr c=0):ldrErr c (newLdr c)=0:=by
 obtain⟨z1,z2,z3,z4,z5,z6,z7⟩:=cfgErr_zero h
 have hag:=(agents_same z7).2
 refine ldrErr_zero.2 ⟨h,by simp[newLdr],by simp[newLdr],?_,?_,?_,?_⟩
 ·refine relsErr_zero.2 fun j r hj=> ?_
  cases j with
  |zero=>simp[newLdr] at hj;subst hj;exact⟨z5,z6,by rw[z2];rfl⟩
  |succ j=>simp[newLdr] at hj
 ·unfold ldrRange newLdr;simp
 ·refine form_of (by simp[newLdr]) (by simp[newLdr]) ?_ rfl
  simp[newLdr];omega
 ·refine knErr_zero.2 fun a ha=> ?_
  simp[newLdr] at ha
  obtain⟨_,rfl⟩:=ha
  exact⟨by unfold badKn newLdr;simp,by unfold oddKn newLdr;simp⟩
theorem led_zero{c:Conf}{l:Ldr}{r:Recd}(h:ledErr c l r=0):ldrErr c l=0/\recErr r=0/\ledKind c l r=0:=by
 unfold ledErr at h
 split at h
 ·omega
 ·split at h
  ·omega
  ·exact⟨by omega,by omega,h⟩
theorem led_cases{c:Conf}{l:Ldr}{r:Recd}(h:ledKind c l r=0):(r.kind=4/\l.rels.length≠6/\r.rel.id=l.rels.length+1/\brokenErr r.rel.lock c.rules=0/\broken r.rel.lock c.rules<0)∨
  (r.kind=5/\l.goal=0/\r.num<=l.rels.length/\r.num≠l.now)∨(r.kind=6/\r.agent<l.ags.length/\l.goal≠0/\r.try_=l.nx/\turnOf c l r.agent=true)∨
  (r.kind=7/\r.agent<l.ags.length/\∃a,l.ags[r.agent.toNat]?=some a/\a.st=1/\r.try_=a.try_)∨(r.kind=8/\l.goal≠0/\l.back=false)∨(r.kind=9/\l.goal≠0/\overOf c l=true):=by
 unfold ledKind at h
 by_cases k4:r.kind=4
 ·rw[if_pos k4] at h
  split at h
  ·omega
  ·split at h
   ·omega
   ·split at h
    ·omega
    ·split at h
     ·omega
     ·exact .inl ⟨k4,by assumption,by omega,by omega,by omega⟩
 ·rw[if_neg k4] at h
  by_cases k5:r.kind=5
  ·rw[if_pos k5] at h
   split at h
   ·omega
   ·split at h
    ·omega
    ·split at h
     ·omega
     ·exact .inr (.inl ⟨k5,by omega,by omega,by assumption⟩)
  ·rw[if_neg k5] at h
   by_cases k67:r.kind=6∨r.kind=7
   ·rw[if_pos k67] at h
    split at h
    ·omega
    ·by_cases k7:r.kind=7
     ·rw[if_pos k7] at h
      cases ha:l.ags[r.agent.toNat]? with
      |none=>rw[ha] at h;simp at h
      |some a=>
       rw[ha] at h
       simp only at h
       split at h
       ·omega
       ·exact .inr (.inr (.inr (.inl ⟨k7,by omega,a,rfl,by omega,by omega⟩)))
     ·rw[if_neg k7] at h
      split at h
      ·omega
      ·rename_i w
       refine .inr (.inr (.inl ⟨by omega,by omega,fun q=>w (.inl q),?_,?_⟩))
       ·by_cases q:r.try_=l.nx
        ·exact q
        ·exact absurd (.inr (.inl q)) w
       ·cases q:turnOf c l r.agent with
        |true=>rfl
        |false=>exact absurd (.inr (.inr q)) w
   ·rw[if_neg k67] at h
    by_cases k8:r.kind=8
    ·rw[if_pos k8] at h
     split at h
     ·omega
     ·rename_i w
      refine .inr (.inr (.inr (.inr (.inl ⟨k8,fun q=>w (.inl q),?_⟩))))
      cases q:l.back with
      |false=>rfl
      |true=>exact absurd (.inr q) w
    ·rw[if_neg k8] at h
     by_cases k9:r.kind=9
     ·rw[if_pos k9] at h
      split at h
      ·omega
      ·rename_i w
       refine .inr (.inr (.inr (.inr (.inr ⟨k9,fun q=>w (.inl q),?_⟩))))
       cases q:overOf c l with
       |true=>rfl
       |false=>exact absurd (.inr q) w
     ·rw[if_neg k9] at h;omega
theorem kn_mem_set{xs:List Kn}{k:Nat}{x a:Kn}(h:a∈xs.set k x):a=x∨a∈xs:=by
 rcases List.mem_or_eq_of_mem_set h with h|h
 ·exact .inr h
 ·exact .inl h
theorem led_ok{c:Conf}{l:Ldr}{r:Recd}(h:ledErr c l r=0):ldrErr c (ledNext l r)=0:=by
 obtain⟨h1,h2,h3⟩:=led_zero h
 obtain⟨g1,g2,g3,g4,g5,g6,g7⟩:=ldrErr_zero.1 h1
 obtain⟨z1,z2,z3,z4⟩:=rec_zero h2
 obtain⟨f1,f2,f3,f4⟩:=form_parts g6
 have hkn:=knErr_zero.1 g7
 have g5':=g5
 unfold ldrRange at g5'
 unfold recRange at z3
 rcases led_cases h3 with⟨k,w1,w2,w3,w4⟩|⟨k,w1,w2,w3⟩|⟨k,w1,w2,w3,w4⟩|⟨k,w1,a,w2,w3,w4⟩|⟨k,w1,w2⟩|⟨k,w1,w2⟩
 ·have e:ledNext l r= { l with rels:=l.rels++[r.rel] } :=by rw[ledNext,if_pos k]
  rw[e]
  refine ldrErr_zero.2 ⟨g1,by simp,by simp;omega,relsErr_zero.2 fun j x hj=> ?_,by unfold ldrRange;simp;omega,form_of f1 f2 f3 ?_,g7⟩
  ·rcases Nat.lt_or_ge j l.rels.length with hl|hl
   ·rw[List.getElem?_append_left hl] at hj
    exact relsErr_zero.1 g4 j x hj
   ·rw[List.getElem?_append_right hl] at hj
    cases hjl:j-l.rels.length with
    |zero=>rw[hjl] at hj;simp at hj;subst hj;exact⟨w3,w4,by rw[w2];omega⟩
    |succ m=>rw[hjl] at hj;simp at hj
  ·simp only;rw[List.getElem?_append_left (by omega)];exact f4
 ·have e:ledNext l r= { l with goal:=r.num } :=by rw[ledNext,if_neg (by omega),if_pos k]
  rw[e]
  refine ldrErr_zero.2 ⟨g1,g2,g3,g4,by unfold ldrRange;simp only;omega,form_of w3 (fun q=>by simp only at q;omega) f3 f4,knErr_zero.2 fun a ha=> ?_⟩
  obtain⟨x1,x2⟩:=hkn a ha
  refine⟨x1,?_⟩
  unfold oddKn at x2⊢
  simp only
  rintro(⟨y1,_⟩|y)
  ·exact x2 (.inl ⟨y1,.inl w1⟩)
  ·exact x2 (.inr y)
 ·have e:ledNext l r= { l with ags:=l.ags.set r.agent.toNat ⟨1,r.try_,l.back⟩,nx:=l.nx+1 } :=by rw[ledNext,if_neg (by omega),if_neg (by omega),if_pos k]
  rw[e]
  refine ldrErr_zero.2 ⟨g1,g2,g3,g4,by unfold ldrRange;simp only;omega,form_of f1 f2 (by simpa using f3) f4,knErr_zero.2 fun a ha=> ?_⟩
  rcases kn_mem_set ha with rfl|ha
  ·refine⟨by unfold badKn;simp only;omega,?_⟩
   unfold oddKn
   simp only
   rintro(⟨_,y|y⟩|⟨y1,y|y⟩)
   ·exact w2 y
   ·omega
   ·rw[y] at y1;cases y1
   ·omega
  ·obtain⟨x1,x2⟩:=hkn a ha
   exact⟨by unfold badKn at x1⊢;simp only;omega,x2⟩
 ·have e:ledNext l r= { l with ags:=l.ags.set r.agent.toNat (got r a) } :=by rw[ledNext,if_neg (by omega),if_neg (by omega),if_neg (by omega),if_pos k,w2]
  rw[e]
  refine ldrErr_zero.2 ⟨g1,g2,g3,g4,g5,form_of f1 f2 (by simpa using f3) f4,knErr_zero.2 fun b hb=> ?_⟩
  rcases kn_mem_set hb with rfl|hb
  ·obtain⟨x1,x2⟩:=hkn a (List.mem_of_getElem? w2)
   have hst:(got r a).st=2∨(got r a).st=3:=by unfold got;by_cases hg:r.good=true<;>simp[hg]
   have ht:(got r a).try_=a.try_:=rfl
   have hbk:(got r a).back=a.back:=rfl
   refine⟨by unfold badKn at x1⊢;rw[ht];simp only;omega,?_⟩
   unfold oddKn at x2⊢
   rw[ht,hbk]
   simp only
   rintro(⟨_,y⟩|⟨y1,y|y⟩)
   ·exact x2 (.inl ⟨by omega,y⟩)
   ·exact x2 (.inr ⟨y1,.inl y⟩)
   ·omega
  ·exact hkn b hb
 ·have e:ledNext l r= { l with back:=true } :=by rw[ledNext,if_neg (by omega),if_neg (by omega),if_neg (by omega),if_neg (by omega),if_pos k]
  rw[e]
  refine ldrErr_zero.2 ⟨g1,g2,g3,g4,g5,form_of f1 (fun q=>w1 q.1) f3 f4,knErr_zero.2 fun a ha=> ?_⟩
  obtain⟨x1,x2⟩:=hkn a ha
  refine⟨x1,?_⟩
  unfold oddKn at x2⊢
  simp only
  rintro(y|⟨y1,_⟩)
  ·exact x2 (.inl y)
  ·exact x2 (.inr ⟨y1,.inl w2⟩)
 ·have e:ledNext l r= { l with now:=(if l.back=false then l.goal else l.now),goal:=0,back:=false,ags:=l.ags.map fun a=>⟨0,a.try_,false⟩ } :=by rw[ledNext,if_neg (by omega),if_neg (by omega),if_neg (by omega),if_neg (by omega),if_neg (by omega)]
  rw[e]
  have hn:1<=(if l.back=false then l.goal else l.now)/\(if l.back=false then l.goal else l.now)<=l.rels.length:=by split<;>omega
  refine ldrErr_zero.2 ⟨g1,g2,g3,g4,by unfold ldrRange;simp only;omega,form_of (by simp only;omega) (by simp) (by simpa using f3) f4,knErr_zero.2 fun b hb=> ?_⟩
  obtain⟨a,ha,rfl⟩:=List.mem_map.1 hb
  obtain⟨x1,x2⟩:=hkn a ha
  exact⟨by unfold badKn at x1⊢;simp only;omega,by unfold oddKn;simp⟩
theorem led_turn{c:Conf}{l:Ldr}{r:Recd}(h:ledErr c l r=0)(k:r.kind=6)(hb:l.back=false):∃p,l.ags[r.agent.toNat]?=some p/\0<=r.agent/\r.agent<l.ags.length/\p.st=0/\cnt 3 l.ags<=c.bud/\
  ∀(k:Int)(m:Kn),0<=k->l.ags[k.toNat]?=some m->waveOf c.waves k<waveOf c.waves r.agent->m.st=2∨m.st=3:=by
 obtain⟨h1,h2,h3⟩:=led_zero h
 obtain⟨g1,g2,g3,g4,g5,g6,g7⟩:=ldrErr_zero.1 h1
 obtain⟨z1,z2,z3,z4⟩:=rec_zero h2
 obtain⟨f1,f2,f3,f4⟩:=form_parts g6
 unfold recRange at z3
 obtain⟨w1,w2,w3,w4⟩:r.agent<l.ags.length/\l.goal≠0/\r.try_=l.nx/\turnOf c l r.agent=true:=by
  rcases led_cases h3 with⟨k,_⟩|⟨k,_⟩|⟨k,w⟩|⟨k,_⟩|⟨k,_⟩|⟨k,_⟩
  ·omega
  ·omega
  ·exact w
  ·omega
  ·omega
  ·omega
 obtain⟨p,hp⟩:∃p,l.ags[r.agent.toNat]?=some p:=⟨_,List.getElem?_eq_getElem (by omega)⟩
 unfold turnOf at w4
 rw[hp] at w4
 simp only[hb,Bool.false_eq_true,if_false,decide_eq_true_eq] at w4
 obtain⟨y1,y2,y3,y4⟩:=w4
 refine⟨p,hp,by omega,w1,y2,y4,fun k m hk hm hlt=> ?_⟩
 have hwz:=waveCheck_zero y1
 have hkl:=(List.getElem?_eq_some_iff.1 hm).1
 obtain⟨N,hN,hIs⟩:∃n:Nat,waveNow c.waves (thr l.ags)=n/\IsNow c.waves (thr l.ags) n:=by
  obtain⟨n,hn,hI⟩:=nowFrom_spec (thr l.ags) c.waves 0
  exact⟨n,by rw[waveNow,thr_len,if_pos y1,hn];omega,hI⟩
 rw[y3,hN] at hlt
 rcases waveOfFrom_spec k c.waves 0 with⟨_,x⟩|⟨j,v,x1,x2,x3,x4⟩
 ·exact absurd ((hwz.2.2.2.1 k).2 ⟨hk,by omega⟩) x
 ·have hj:j<N:=by unfold waveOf at hlt;omega
  have:=hIs.ahead j v x2 hj k x3
  by_cases hst:m.st=2∨m.st=3
  ·exact hst
  ·rw[(notThr hk hm).2 hst] at this;cases this
open Go
structure Nod where
 a:Agt
 d:Dsk
 up:Bool
 deriving DecidableEq
structure Hed where
 l:Ldr
 d:Dsk
 up:Bool
 deriving DecidableEq
structure Wld where
 c:Conf
 h:Hed
 n:List Nod
 m:List Mail
structure Hap where
 kind:Int
 agent:Int
 num:Int
 good:Bool
 lock:List Pin
def logOf(d:Dsk)(up:Bool):Except Int (List Recd):=
 if dskErr d≠0 then .error (dskErr d) else if up=true/\d.wait≠[] then .error 4 else .ok (if up=true then dskRecs d else [])
def hedErr(c:Conf)(h:Hed):Int:=
 match logOf h.d h.up with
 | .error e=>e
 | .ok l=>match ledReplay c l with
  | .error e=>e
  | .ok x=>if x=h.l then 0 else 4
def nodErr(f:Rls)(n:Nod):Int:=
 match logOf n.d n.up with
 | .error e=>e
 | .ok l=>match agtReplay f l with
  | .error e=>e
  | .ok x=>if x=n.a then 0 else 4
def nodsErr(f:Rls):List Nod->Int
 | []=>0
 |n::q=>if nodErr f n≠0 then nodErr f n else nodsErr f q
def farMail(k:Int)(l:List Mail):Bool:=l.any fun m=>decide (k<=m.agent)
def wldErr(w:Wld):Int:=
 if cfgErr w.c≠0 then cfgErr w.c else
 if(w.n.length:Int)≠agentsOf w.c.waves then 4 else
 if mailsCheck w.m≠0 then mailsCheck w.m else
 if farMail w.n.length w.m=true then 5 else
 if hedErr w.c w.h≠0 then hedErr w.c w.h else nodsErr w.c.first w.n
def dskSafe(d:Dsk)(r:Recd):Except Int Dsk:=
 match dskPut d r with
 | .error e=> .error e
 | .ok x=>dskSync x
def wLead(w:Wld)(r:Recd):Except Int Wld:=
 if ledErr w.c w.h.l r≠0 then .error (ledErr w.c w.h.l r) else
 match dskSafe w.h.d r with
 | .error e=> .error e
 | .ok d=> .ok { w with h:=⟨ledNext w.h.l r,d,w.h.up⟩ }
def nDoes(n:Nod)(r:Recd):Except Int Nod:=
 if nextErr n.a r≠0 then .error (nextErr n.a r) else
 match dskSafe n.d r with
 | .error e=> .error e
 | .ok d=> .ok ⟨agtNext n.a r,d,n.up⟩
def wDoes(w:Wld)(k:Nat)(r:Recd):Except Int Wld:=
 match w.n[k]? with
 |none=> .error 5
 |some n=>match nDoes n r with
  | .error e=> .error e
  | .ok n'=> .ok { w with n:=w.n.set k n' }
def wPost(w:Wld)(m:Mail):Wld:=if sendErr w.m m=0 then{ w with m:=sent w.m m } else w
def repMail(k:Nat)(a:Agt):Mail:=⟨k,a.try_,true,a.good,⟨0,[]⟩⟩
def wReport(w:Wld)(k:Nat):Wld:=
 match w.n[k]? with
 |none=>w
 |some n=>wPost w (repMail k n.a)
def wTell(w:Wld)(x:Hap):Except Int Wld:=
 if turnErr w.c w.h.l x.agent≠0 then .error (turnErr w.c w.h.l x.agent) else
 if x.kind=4 then
  (match w.h.l.ags[x.agent.toNat]? with
   |none=> .error 5
   |some a=>if a.st≠1∨a.back≠w.h.l.back then .error 7 else .ok (wPost w ⟨x.agent,a.try_,false,false,turnRel w.c w.h.l x.agent⟩))
 else match wLead w ⟨6,x.agent,w.h.l.nx,0,false,⟨0,[]⟩⟩ with
  | .error e=> .error e
  | .ok y=> .ok (wPost y ⟨x.agent,w.h.l.nx,false,false,turnRel w.c w.h.l x.agent⟩)
def wStep(w:Wld)(x:Hap)(n:Nod):Except Int Wld:=
 if n.a.going=false then .error 7 else
 if agtErr n.a≠0 then .error (agtErr n.a) else
 if agtLeft n.a≠[] then wDoes w x.agent.toNat ⟨2,0,n.a.try_,0,false,⟨0,[]⟩⟩ else
 match wDoes w x.agent.toNat ⟨3,0,n.a.try_,0,x.good,⟨0,[]⟩⟩ with
 | .error e=> .error e
 | .ok y=> .ok (wReport y x.agent.toNat)
def orSame(w:Wld):Except Int Wld->Wld
 | .ok y=>y
 | .error _=>w
def wHear(w:Wld)(x:Hap):Except Int Wld:=
 if takeErr w.m x.num≠0 then .error (takeErr w.m x.num) else
 match w.n[(took w.m x.num).agent.toNat]? with
 |none=> .error 5
 |some n=>
  if((took w.m x.num).rep=true/\w.h.up=false)∨((took w.m x.num).rep=false/\n.up=false) then .error 7 else
  let w1:Wld:= { w with m:=left w.m x.num (decide (x.kind=10)) }
  if(took w.m x.num).rep=true then .ok (orSame w1 (wLead w1 ⟨7,(took w.m x.num).agent,(took w.m x.num).try_,0,(took w.m x.num).good,⟨0,[]⟩⟩)) else
  if(took w.m x.num).try_=n.a.try_/\n.a.going=false then .ok (wReport w1 (took w.m x.num).agent.toNat) else
  .ok (orSame w1 (wDoes w1 (took w.m x.num).agent.toNat ⟨1,0,(took w.m x.num).try_,0,false,(took w.m x.num).rel⟩))
def wPower(w:Wld)(x:Hap):Except Int Wld:=
 if x.agent<0 then
  (if w.h.up=decide (x.kind=13) then .error 7 else
   if dskErr w.h.d≠0 then .error (dskErr w.h.d) else
   match ledReplay w.c (if x.kind=12 then [] else dskRecs w.h.d) with
   | .error e=> .error e
   | .ok s=> .ok { w with h:=⟨s,if x.kind=12 then w.h.d else dskBack w.h.d,!w.h.up⟩ })
 else match w.n[x.agent.toNat]? with
  |none=> .error 5
  |some n=>
   if n.up=decide (x.kind=13) then .error 7 else
   if dskErr n.d≠0 then .error (dskErr n.d) else
   match agtReplay w.c.first (if x.kind=12 then [] else dskRecs n.d) with
   | .error e=> .error e
   | .ok s=> .ok { w with n:=w.n.set x.agent.toNat ⟨s,if x.kind=12 then n.d else dskBack n.d,!n.up⟩ }
def hapRec(w:Wld)(x:Hap):Recd:=
 if x.kind=1 then⟨4,0,0,0,false,⟨w.h.l.rels.length+1,x.lock⟩⟩ else
 if x.kind=2 then⟨5,0,0,x.num,false,⟨0,[]⟩⟩ else
 if x.kind=5 then⟨8,0,0,0,false,⟨0,[]⟩⟩ else⟨9,0,0,0,false,⟨0,[]⟩⟩
def wHap(w:Wld)(x:Hap):Except Int Wld:=
 if x.kind=9∨x.kind=10 then wHear w x else
 if x.kind=11 then(if takeErr w.m x.num≠0 then .error (takeErr w.m x.num) else .ok { w with m:=left w.m x.num false }) else
 if x.kind=1∨x.kind=2∨x.kind=5∨x.kind=6 then(if w.h.up=false then .error 7 else wLead w (hapRec w x)) else
 if x.kind<1∨13<x.kind then .error 4 else
 if(w.n.length:Int)<=x.agent∨(x.agent<0/\x.kind≠12/\x.kind≠13) then .error 5 else
 if x.kind=3∨x.kind=4 then(if w.h.up=false then .error 7 else wTell w x) else
 if x.kind=12∨x.kind=13 then wPower w x else
 match w.n[x.agent.toNat]? with
 |none=> .error 5
 |some n=>
  if n.up=false then .error 7 else
  if x.kind=7 then wStep w x n else
  if n.a.going=true∨n.a.try_=0 then .error 7 else .ok (wReport w x.agent.toNat)
def wDo(w:Wld)(x:Hap):Except Int Wld:=if wldErr w≠0 then .error (wldErr w) else wHap w x
def wRunFrom:Wld->List Hap->Wld×List Int
 |w,[]=>(w,[])
 |w,x::q=>match wHap w x with
  | .ok y=>((wRunFrom y q).1,0::(wRunFrom y q).2)
  | .error e=>((wRunFrom w q).1,e::(wRunFrom w q).2)
def runErr(w:Wld)(l:List Hap):Int:=if wldErr w≠0 then wldErr w else if 150<l.length then 2 else 0
def freshNod(f:Rls):Nod:=⟨newAgt f,dsk0,true⟩
def freshWld(c:Conf):Wld:=⟨c,⟨newLdr c,dsk0,true⟩,List.replicate (agentsOf c.waves).toNat (freshNod c.first),[]⟩
structure DOk(d:Dsk)(rs:List Recd):Prop where
 eq:d=⟨recsText rs,[]⟩
 recs:∀r∈rs,recErr r=0
 many:rs.length<=200
 size:(recsText rs).length<=60000
theorem DOk.nil:DOk dsk0 []:=⟨rfl,by simp,by simp,by simp[recsText]⟩
theorem DOk.err{d:Dsk}{rs:List Recd}(h:DOk d rs):dskErr d=0/\dskRecs d=rs/\dskBack d=d/\d.wait=[]:=by
 obtain⟨rfl,h1,h2,h3⟩:=h
 obtain⟨a,b,c⟩:=dsk_again h1 h2 h3
 exact⟨a,b,c,rfl⟩
theorem dok_of{d:Dsk}(h:dskErr d=0)(hw:d.wait=[]):DOk d (dskRecs d):=by
 obtain⟨h1,h2,h3⟩:=dskErr_zero h
 obtain⟨i1,i2,i3,i4,i5⟩:=linesF_ok (most:=200) d.safe.length (s:=d.safe) (k:=0) (Nat.le_refl _) (by omega)
 have h5:=i5 h3
 rw[h5,List.take_of_length_le (Nat.le_refl _)] at i4
 have hr:dskRecs d=(linesF 200 0 d.safe).1:=by
  unfold dskRecs dskMore
  rw[hw,linesF_nil];simp
 rw[hr]
 refine⟨?_,i1,by omega,by rw[←i4];exact h1⟩
 cases d with
 |mk s w=>subst hw;simp only at i4;rw[←i4]
theorem dok_back{d:Dsk}(h:dskErr d=0):DOk (dskBack d) (dskRecs d):=by
 obtain⟨h1,h2,h3⟩:=dskErr_zero h
 obtain⟨i1,i2,i3,i4,i5⟩:=linesF_ok (most:=200) d.safe.length (s:=d.safe) (k:=0) (Nat.le_refl _) (by omega)
 have h5:=i5 h3
 rw[h5,List.take_of_length_le (Nat.le_refl _)] at i4
 obtain⟨j1,j2,j3,j4,j5⟩:=linesF_ok (most:=200-(linesF 200 0 d.safe).1.length) d.wait.length (s:=d.wait) (k:=0) (Nat.le_refl _) (by omega)
 have e:dskBack d=⟨recsText (dskRecs d),[]⟩:=by
  unfold dskBack dskRecs
  rw[recsText_app,←i4]
  unfold dskMore
  rw[j4]
 have el:(recsText (dskRecs d)).length<=60000:=by
  unfold dskRecs
  rw[recsText_app,←i4]
  unfold dskMore
  rw[←j4,List.length_append,List.length_take]
  omega
 refine⟨e,fun r hr=> ?_,?_,el⟩
 ·unfold dskRecs dskMore at hr
  rcases List.mem_append.1 hr with hr|hr
  ·exact i1 r hr
  ·exact j1 r hr
 ·unfold dskRecs dskMore
  rw[List.length_append];omega
theorem dskErr_many{rs:List Recd}(h:∀r∈rs,recErr r=0)(hn:200<rs.length)(hl:(recsText rs).length<=60000):dskErr ⟨recsText rs,[]⟩=2:=by
 unfold dskErr
 dsimp only
 rw[if_neg (by omega),if_neg (by simp)]
 have key:∀(qs:List Recd)(k:Nat),(∀r∈qs,recErr r=0)->k<=200->200<k+qs.length->(linesF 200 k (recsText qs)).2.2=2:=by
  intro qs
  induction qs with
  |nil=>intro k _ h1 h2;simp at h2;omega
  |cons q t ih=>
   intro k hq h1 h2
   rw[recsText_cons]
   by_cases hk:k=200
   ·subst hk
    rw[linesF_many recText_line (recRead_text (hq q (by simp)))]
   ·rw[linesF_more recText_line (recRead_text (hq q (by simp))) hk]
    exact ih (k+1) (fun x hx=>hq x (by simp[hx])) (by omega) (by simp at h2;omega)
 exact key rs 0 h (by omega) (by omega)
theorem dskSafe_ok{d x:Dsk}{rs:List Recd}{r:Recd}(h:DOk d rs)(hx:dskSafe d r= .ok x):DOk x (rs++[r]):=by
 unfold dskSafe at hx
 cases hp:dskPut d r with
 |error e=>rw[hp] at hx;cases hx
 |ok y=>
  rw[hp] at hx
  obtain⟨p1,p2,p3,rfl⟩:=dskPut_ok hp
  obtain⟨rfl,h1,h2,h3⟩:=h
  simp only[List.nil_append,List.length_nil,Nat.add_zero] at p3 hx
  have e1:recsText rs++(recText r++[10])=recsText (rs++[r]):=by rw[recsText_app];simp[recsText]
  unfold dskSync at hx
  dsimp only at hx
  rw[e1] at hx
  split at hx
  ·split at hx
   ·rename_i hz
    obtain rfl:=Except.ok.inj hx
    have hl:(recsText (rs++[r])).length<=60000:=(dskErr_zero hz).1
    refine⟨rfl,fun q hq=> ?_,?_,hl⟩
    ·rcases List.mem_append.1 hq with hq|hq
     ·exact h1 q hq
     ·simp at hq;subst hq;exact p2
    ·by_cases hn:(rs++[r]).length<=200
     ·exact hn
     ·exfalso
      have hall:∀q∈rs++[r],recErr q=0:=fun q hq=>by
       rcases List.mem_append.1 hq with hq|hq
       ·exact h1 q hq
       ·simp at hq;subst hq;exact p2
      have:=dskErr_many hall (by omega) hl
      rw[this] at hz;cases hz
   ·cases hx
  ·cases hx
theorem dskSafe_room{d:Dsk}{rs:List Recd}{r:Recd}(h:DOk d rs)(hr:recErr r=0)(hn:rs.length<200)(hl:(recsText rs).length<=59000):∃x,dskSafe d r= .ok x/\DOk x (rs++[r]):=by
 have e0:=h.err
 obtain⟨rfl,h1,h2,h3⟩:=h
 have hlen:=recText_len hr
 have e1:recsText rs++(recText r++[10])=recsText (rs++[r]):=by rw[recsText_app];simp[recsText]
 have hall:∀q∈rs++[r],recErr q=0:=fun q hq=>by
  rcases List.mem_append.1 hq with hq|hq
  ·exact h1 q hq
  ·simp at hq;subst hq;exact hr
 have hl2:(recsText (rs++[r])).length<=60000:=by rw[←e1];simp;omega
 have hx:dskSafe ⟨recsText rs,[]⟩ r= .ok ⟨recsText (rs++[r]),[]⟩:=by
  unfold dskSafe dskPut
  rw[if_pos e0.1,if_pos hr]
  dsimp only
  rw[if_neg (by simp;omega)]
  dsimp only
  unfold dskSync
  dsimp only
  have hz:dskErr ⟨recsText rs,[]++(recText r++[10])⟩=0:=dskErr_recs h1 (by omega) (by simp;omega)
  rw[if_pos hz,List.nil_append,e1,if_pos (dskErr_recs hall (by simp;omega) (by simpa using hl2))]
 exact⟨_,hx,rfl,hall,by simp;omega,hl2⟩
end Go.Vg
