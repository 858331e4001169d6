/- What is proved here: a part of the proof of laws of this seat: what a contract is, how it comes of a condition, contracts of the functions that are reached, the plain laws. -/
import Derived.Test.YtgaegoefbekndaaGreatDoorSS7
set_option linter.unusedSimpArgs false
set_option linter.unusedVariables false
set_option maxRecDepth 100000
namespace Go.Vg
open Go Go.Proofs
section
variable {H : Heap} {c : Conf} {fa ra wa : O} {fl fc rl rc wl wc : Nat}
theorem cAgents(hc:CfgAt H c fa fl ra rl wa wl):Spec Tryz.prog 88 [cfgArg c fa fl fc ra rl rc wa wl wc] H fun v _=>v=i64 (agentsOf c.waves):=by
 refine TryzvcJ Tryz.func88 (by kernel_rfl) (by kernel_rfl) _ rfl (fun base K=>vc94 c.first.id c.bud fa ra wa fl fc rl rc wl wc base H K) fun base hb=> ?_
 intro b
 have hl:=hc.waves.len
 have hle:=hc.waves.le
 refine⟨fun vs _=>∃(m:Int)(i:Nat),vs=[i64 m,i64 i]/\i<=wl/\0<=m/\m<=6/\agentsFrom m (c.waves.drop i)=agentsOf c.waves,upTo wl 1,⟨0,0,rfl,by omega,by omega,by omega,rfl⟩,fun n n1 H' hN hI=> ?_⟩
 obtain⟨m,i,hvs,hi,m0,m6,hI⟩:=hI
 obtain⟨rfl,rfl⟩:n=m/\n1=(i:Int):=by simpa using hvs
 refine⟨fun hlt=>hc.waves.slice hN.ext (by omega) hlt fun w a' n' c' hw hs=> ?_,fun hge=> ?_⟩
 ·rw[Int.toNat_natCast] at hw
  rw[drop_at hw,agentsFrom] at hI
  have hwl:=hs.len
  have hmin:(if 7<(n':Int) then 7 else(n':Int))=min 7 (w.length:Int):=by rw[hwl];split<;>omega
  rw[hmin]
  rintro _ rfl
  rw[wrap_in (by omega) (by omega)]
  refine⟨fun h=> ?_,fun h=> ?_⟩
  ·rw[if_pos h] at hI;rw[hI]
  ·rw[if_neg h] at hI
   rintro _ rfl
   rw[wrap_in (by omega) (by omega)]
   exact⟨rfl,⟨_,i+1,rfl,by omega,by omega,by omega,hI⟩,by simp[upTo];omega⟩
 ·rw[drop_all hl (by omega),agentsFrom] at hI;rw[hI]
theorem cRefAgents(hc:CfgAt H c fa fl ra rl wa wl):Spec Tryz.prog 68 [cfgArg c fa fl fc ra rl rc wa wl wc] H fun v _=>v=i64 (refAgents c.waves):=by
 refine TryzvcJ Tryz.func68 (by kernel_rfl) (by kernel_rfl) _ rfl (fun base K=>vc97 c.first.id c.bud fa ra wa fl fc rl rc wl wc base H K) fun base hb=> ?_
 intro b
 have hl:=hc.waves.len
 have hle:=hc.waves.le
 refine⟨fun vs _=>∃(d:Int)(m i:Nat),vs=[i64 d,i64 m,i64 i]/\i<=wl/\m<=6/\m+(c.waves.drop i).flatten.length=c.waves.flatten.length,upTo wl 2,⟨0,0,0,rfl,by omega,by omega,by simp⟩,fun n n1 n2 H' hN hI=> ?_⟩
 obtain⟨d,m,i,hvs,hi,m6,hI⟩:=hI
 obtain⟨rfl,rfl,rfl⟩:n=d/\n1=(m:Int)/\n2=(i:Int):=by simpa using hvs
 refine⟨fun hlt=>hc.waves.slice hN.ext (by omega) hlt fun w a' n' c' hw hs=> ?_,fun hge=> ?_⟩
 ·rw[Int.toNat_natCast] at hw
  rw[drop_at hw,List.flatten_cons,List.length_append] at hI
  have hwl:=hs.len
  have hwle:=hs.le
  refine⟨fun vs _=>∃(d:Int)(m' j:Nat),vs=[i64 d,i64 m',i64 j]/\j<=n'/\m'<=6/\m'=m+j,upTo n' 2,⟨n,m,0,rfl,by omega,m6,by omega⟩,fun n4 n5 n6 H2 hN2 hI2=> ?_⟩
  obtain⟨d2,m2,j,hvs2,hj,m26,hm2⟩:=hI2
  obtain⟨rfl,rfl,rfl⟩:n4=d2/\n5=(m2:Int)/\n6=(j:Int):=by simpa using hvs2
  refine⟨fun hlt2=> ?_,fun hge2=> ?_⟩
  ·rintro _ rfl
   rw[wrap_in (by omega) (by omega)]
   refine⟨fun h=> ?_,fun h=> ?_⟩
   ·rw[refAgents,if_pos (by omega)]
   ·rintro _ rfl
    rw[wrap_in (by omega) (by omega)]
    exact⟨rfl,⟨n4,m2+1,j+1,by simp,by omega,by omega,by omega⟩,by simp[upTo];omega⟩
  ·rintro _ rfl
   rw[wrap_in (by omega) (by omega)]
   exact⟨rfl,⟨n4,m2,i+1,by simp,by omega,m26,by omega⟩,by simp[upTo];omega⟩
 ·rw[drop_all hl (by omega)] at hI
  simp at hI
  rw[refAgents,if_neg (by rw[List.length_flatten];omega),List.length_flatten,hI]
theorem cConfig(hc:CfgAt H c fa fl ra rl wa wl):Spec Tryz.prog 101 [cfgArg c fa fl fc ra rl rc wa wl wc] H fun v _=>v=i64 (cfgErr c):=by
 refine TryzvcJ Tryz.func101 (by kernel_rfl) (by kernel_rfl) _ rfl (fun base K=>vc95 c.first.id c.bud fa ra wa fl fc rl rc wl wc base H K) fun base hb=> ?_
 intro b
 refine(cNoteRelease hc.pins c.first.id).int1 fun H1 e1 _=>⟨fun h=>by rw[cfgErr,if_pos h],fun h=> ?_⟩
 refine⟨c.first.id≠1∨c.bud<0∨3<c.bud,⟨fun h=>⟨rfl,fun _ _ h=>h,.inl h⟩,fun h=>⟨fun h=>⟨rfl,fun _ _ h=>h,.inr (.inl h)⟩,fun h=>⟨rfl,fun _ _ h=>h,by omega⟩⟩⟩,fun hφ=>by rw[cfgErr,if_neg h,if_pos hφ],fun hφ=> ?_⟩
 refine(cBroken (hc.ext e1).pins (hc.ext e1).rules).int2 fun H2 e2 _=>⟨fun h2=>by rw[cfgErr,if_neg h,if_neg hφ,if_pos h2],fun h2=>⟨fun h3=>by rw[cfgErr,if_neg h,if_neg hφ,if_neg h2,if_pos h3],fun h3=> ?_⟩⟩
 refine(cAgents ((hc.ext e1).ext e2)).int1 fun H3 e3 _=>(cWaveCheck (((hc.ext e1).ext e2).ext e3).waves (agentsOf c.waves)).int1 fun H4 e4 _=> ?_
 rw[cfgErr,if_neg h,if_neg hφ,if_neg h2,if_neg h3]
theorem cRefConfig(hc:CfgAt H c fa fl ra rl wa wl):Spec Tryz.prog 28 [cfgArg c fa fl fc ra rl rc wa wl wc] H fun v _=>v=i64 (cfgErr c):=by
 refine TryzvcJ Tryz.func28 (by kernel_rfl) (by kernel_rfl) _ rfl (fun base K=>vc91 c.first.id c.bud fa ra wa fl fc rl rc wl wc base H K) fun base hb=> ?_
 intro b
 refine(cRefRelease hc.pins c.first.id).int1 fun H1 e1 _=>⟨fun h=>by rw[cfgErr,if_pos h],fun h=> ?_⟩
 refine⟨c.first.id≠1∨c.bud<0∨3<c.bud,⟨fun h=>⟨rfl,fun _ _ h=>h,.inl h⟩,fun h=>(cIn c.bud 0 3).bool1 fun H2 e2 _=>⟨rfl,e2,by simp[inR];omega⟩⟩,fun hφ=>by rw[cfgErr,if_neg h,if_pos hφ],fun hφ=> ?_⟩
 refine(cRefBroken (hc.ext e1).pins (hc.ext e1).rules).int2 fun H2 e2 _=> ?_
 have fin:brokenErr c.first.lock c.rules=0->broken c.first.lock c.rules<0->Spec Tryz.prog 68 [cfgArg c fa fl fc ra rl rc wa wl wc] H2 fun v H'=>∃n:Int,v= .int .i64 n/\(Next base H2 H'->Spec Tryz.prog 94 [.slice wa wl wc,.int .i64 n] H' fun v H''=>∃n:Int,v= .int .i64 n/\(Next base H' H''->(Value.int .i64 n)=i64 (cfgErr c))):=fun h2 h3=>by
  refine(cRefAgents ((hc.ext e1).ext e2)).int1 fun H3 e3 _=>(cRefWaveCheck (((hc.ext e1).ext e2).ext e3).waves (refAgents c.waves)).int1 fun H4 e4 _=> ?_
  rw[←waveCheck_ref,agents_check,cfgErr,if_neg h,if_neg hφ,if_neg (by omega),if_neg (by omega)]
 refine⟨brokenErr c.first.lock c.rules=0/\0<=broken c.first.lock c.rules,⟨fun h2=>⟨rfl,fun _ _ h=>h,by simp[h2]⟩,fun h2=>⟨rfl,fun _ _ h=>h,by simp[h2]⟩⟩,fun hψ=>⟨fun _=>by rw[cfgErr,if_neg h,if_neg hφ,if_neg (by omega),if_pos hψ.2],fun h0=>absurd (by decide) h0⟩,fun hψ=>⟨fun h2=>by rw[cfgErr,if_neg h,if_neg hφ,if_pos h2],fun h2=>fin (by omega) (by omega)⟩⟩
end
section
variable {H : Heap} {l : Ldr} {la ka : O} {ll lc kl kc : Nat}
theorem thr_at{xs:List Kn}{i:Nat}{a:Kn}(h:xs[i]?=some a):thr (xs.take (i+1))=thr (xs.take i)++[decide (a.st=2∨a.st=3)]:=by
 rw[take_at h];simp[thr]
theorem boolRow{base:Nat}{H:Heap}{e:TypeId}{a:O}{n c:Nat}{xs:List Bool}(h:Row base H e 1 a n c (xs.map Value.bool)):Sl RBool 1 H a n xs:=by
 have hf:∀xs:List Bool,xs.flatMap (fun x:Bool=>[Value.bool x])=xs.map Value.bool:=fun xs=>by induction xs with|nil=>rfl|cons x r ih=>simp[ih]
 exact sl_of_rowE (sz:=1) (enc:=fun x:Bool=>[Value.bool x]) (fun _=>rfl) (by omega) (by rw[hf];exact h)
theorem cThrough(h:LdrAt H l la ll ka kl)(h6:l.ags.length<=6):Spec Tryz.prog 253 [ldrArg l la ll lc ka kl kc] H fun v H'=>∃a n c,v= .slice a n c/\Sl RBool 1 H' a n (thr l.ags):=by
 refine TryzvcJ Tryz.func253 (by kernel_rfl) (by kernel_rfl) _ rfl (fun base K=>vc149 la ka ll lc kl kc l.now l.goal l.nx l.back base H K) fun base hb=> ?_
 intro b
 have hl:=h.ags.len
 refine⟨fun vs Hc=>∃(a:O)(c i:Nat),vs=[.slice a i c,i64 i]/\i<=kl/\Row base Hc 4 1 a i c ((thr (l.ags.take i)).map Value.bool),upTo kl 1,⟨none,0,0,rfl,by omega,Row.nil⟩,fun a n c n1 H' hN hI=> ?_⟩
 obtain⟨a',c',i,hvs,hi,hR⟩:=hI
 obtain⟨⟨rfl,rfl,rfl⟩,rfl⟩:(a=a'/\n=i/\c=c')/\n1=(i:Int):=by simpa using hvs
 refine⟨fun hlt=>h.ags.kn hN.ext (by omega) hlt fun m hm=>fun b2=> ?_,fun hge=> ?_⟩
 ·rw[Int.toNat_natCast] at hm
  refine⟨fun h2 b3=>⟨_,hR,by omega,by omega,fun a2 c2 H2 hG hR2=> ?_⟩,fun h2 b3=>⟨_,hR,by omega,by omega,fun a2 c2 H2 hG hR2=> ?_⟩⟩
  ·rintro _ rfl
   rw[wrap_in (by omega) (by omega)]
   refine⟨rfl,⟨a2,c2,n+1,rfl,by omega,?_⟩,by simp[upTo];omega⟩
   rw[thr_at hm,List.map_append];simpa[h2] using hR2
  ·rintro _ rfl
   rw[wrap_in (by omega) (by omega)]
   refine⟨rfl,⟨a2,c2,n+1,rfl,by omega,?_⟩,by simp[upTo];omega⟩
   rw[thr_at hm,List.map_append];simpa[h2] using hR2
 ·rw[List.take_of_length_le (by omega)] at hR
  exact⟨a,n,c,rfl,boolRow hR⟩
theorem cnt_at{xs:List Kn}{i:Nat}{a:Kn}{k:Int}(h:xs[i]?=some a):cnt k (xs.take (i+1))=cnt k (xs.take i)+if a.st=k then 1 else 0:=by
 rw[take_at h];unfold cnt;rw[List.filter_append];by_cases h2:a.st=k<;>simp[h2]
theorem cnt_range(k:Int)(xs:List Kn):0<=cnt k xs/\cnt k xs<=xs.length:=by
 unfold cnt;have:=List.length_filter_le (fun a:Kn=>decide (a.st=k)) xs;omega
theorem cIll(h:LdrAt H l la ll ka kl):Spec Tryz.prog 254 [ldrArg l la ll lc ka kl kc] H fun v _=>v=i64 (cnt 3 l.ags):=by
 refine TryzvcJ Tryz.func254 (by kernel_rfl) (by kernel_rfl) _ rfl (fun base K=>vc150 la ka ll lc kl kc l.now l.goal l.nx l.back base H K) fun base hb=> ?_
 intro b
 have hl:=h.ags.len
 have hle:=h.ags.le
 refine⟨fun vs Hc=>∃(i:Nat),vs=[i64 (cnt 3 (l.ags.take i)),i64 i]/\i<=kl,upTo kl 1,⟨0,rfl,by omega⟩,fun n n1 H' hN hI=> ?_⟩
 obtain⟨i,hvs,hi⟩:=hI
 obtain⟨rfl,rfl⟩:n=cnt 3 (l.ags.take i)/\n1=(i:Int):=by simpa using hvs
 refine⟨fun hlt=>h.ags.kn hN.ext (by omega) hlt fun m hm=>fun b2=> ?_,fun hge=> ?_⟩
 ·rw[Int.toNat_natCast] at hm
  have hr:=cnt_range 3 (l.ags.take i)
  have hti:(l.ags.take i).length<=i:=by simp;omega
  refine⟨fun h2=> ?_,fun h2=> ?_⟩
  ·rintro _ rfl _ rfl
   rw[wrap_in (by omega) (by omega),wrap_in (by omega) (by omega)]
   exact⟨rfl,⟨i+1,by rw[cnt_at hm,if_pos h2];simp,by omega⟩,by simp[upTo];omega⟩
  ·rintro _ rfl
   rw[wrap_in (by omega) (by omega)]
   exact⟨rfl,⟨i+1,by rw[cnt_at hm,if_neg h2];simp,by omega⟩,by simp[upTo];omega⟩
 ·rw[List.take_of_length_le (by omega)]
theorem cCounted(h:LdrAt H l la ll ka kl)(k:Int):Spec Tryz.prog 214 [ldrArg l la ll lc ka kl kc,i64 k] H fun v _=>v=i64 (cnt k l.ags):=by
 refine TryzvcJ Tryz.func214 (by kernel_rfl) (by kernel_rfl) _ rfl (fun base K=>vc139 la ka ll lc kl kc l.now l.goal l.nx l.back k base H K) fun base hb=> ?_
 intro b
 have hl:=h.ags.len
 have hle:=h.ags.le
 refine⟨fun vs Hc=>∃(i:Nat),vs=[i64 (cnt k (l.ags.take i)),i64 i]/\i<=kl,upTo kl 1,⟨0,rfl,by omega⟩,fun n n1 H' hN hI=> ?_⟩
 obtain⟨i,hvs,hi⟩:=hI
 obtain⟨rfl,rfl⟩:n=cnt k (l.ags.take i)/\n1=(i:Int):=by simpa using hvs
 refine⟨fun hlt=>h.ags.kn hN.ext (by omega) hlt fun m hm=>fun b2=> ?_,fun hge=> ?_⟩
 ·rw[Int.toNat_natCast] at hm
  have hr:=cnt_range k (l.ags.take i)
  have hti:(l.ags.take i).length<=i:=by simp;omega
  refine⟨fun h2=> ?_,fun h2=> ?_⟩
  ·rintro _ rfl _ rfl
   rw[wrap_in (by omega) (by omega),wrap_in (by omega) (by omega)]
   exact⟨rfl,⟨i+1,by rw[cnt_at hm,if_pos h2];simp,by omega⟩,by simp[upTo];omega⟩
  ·rintro _ rfl
   rw[wrap_in (by omega) (by omega)]
   exact⟨rfl,⟨i+1,by rw[cnt_at hm,if_neg h2];simp,by omega⟩,by simp[upTo];omega⟩
 ·rw[List.take_of_length_le (by omega)]
end
open Go Go.Proofs
theorem rls_eq{m m':Rls} :m=m'↔m.id=m'.id/\m.lock=m'.lock:=by cases m;cases m';simp
theorem cEqRelsA{H:Heap}{a a':O}{l c l' c':Nat}{xs ys:List Rls}(hx:Rels H a l xs)(hy:Rels H a' l' ys):Spec Tryz.prog 76 [.slice a l c,.slice a' l' c',.func (.func 56) #[] #[]] H fun v _=>v= .bool (decide (xs=ys)):=by
 refine TryzvcJ Tryz.func76 (by kernel_rfl) (by kernel_rfl) _ rfl (fun base K=>vc85a a a' l c l' c' base H K) fun base hb=> ?_
 have hxl:=hx.len
 have hyl:=hy.len
 have hle:=hx.le
 refine⟨fun hne=> ?_,fun he=> ?_⟩
 ·rw[decide_eq_false];rintro rfl;omega
 refine⟨fun vs _=>∃(b:Bool)(k:Nat),vs=[.bool b,i64 k]/\k<=l/\(xs.drop k=ys.drop k↔xs=ys),upTo l 1,⟨false,0,rfl,by omega,by simp⟩,fun b n H' hN hI=> ?_⟩
 obtain⟨b',k,hvs,hk,hI⟩:=hI
 obtain⟨rfl,rfl⟩:b=b'/\n=(k:Int):=by simpa using hvs
 refine⟨fun hlt=>hx.rl hN.ext (by omega) hlt fun m a1 n1 c1 hm hp=>fun b4=>hy.rl hN.ext (by omega) (by omega) fun m' a2 n2 c2 hm' hq=>fun b8=>(cAlike (hp.ext' hN.ext) (hq.ext' hN.ext) _ _).bool1 fun H2 e2 _=>⟨fun h=> ?_,fun h=> ?_⟩,fun hge=> ?_⟩
 ·rw[Int.toNat_natCast] at hm hm'
  rw[drop_at hm,drop_at hm'] at hI
  rw[decide_eq_false]
  intro e
  exact absurd (List.cons.inj (hI.2 e)).1 (by rw[rls_eq];simpa using h)
 ·rw[Int.toNat_natCast] at hm hm'
  rw[drop_at hm,drop_at hm'] at hI
  have hpq:m=m':=by rw[rls_eq];simpa using h
  rintro r rfl
  rw[wrap_in (by omega) (by omega)]
  exact⟨⟨b,k+1,rfl,by omega,by rw[←hI];simp[hpq]⟩,by simp[upTo];omega⟩
 ·rw[decide_eq_true]
  exact hI.1 (by rw[drop_all hxl (by omega),drop_all hyl (by omega)])
theorem cEqRelsB{H:Heap}{a a':O}{l c l' c':Nat}{xs ys:List Rls}(hx:Rels H a l xs)(hy:Rels H a' l' ys):Spec Tryz.prog 76 [.slice a l c,.slice a' l' c',.func (.func 77) #[] #[]] H fun v _=>v= .bool (decide (xs=ys)):=by
 refine TryzvcJ Tryz.func76 (by kernel_rfl) (by kernel_rfl) _ rfl (fun base K=>vc85b a a' l c l' c' base H K) fun base hb=> ?_
 have hxl:=hx.len
 have hyl:=hy.len
 have hle:=hx.le
 refine⟨fun hne=> ?_,fun he=> ?_⟩
 ·rw[decide_eq_false];rintro rfl;omega
 refine⟨fun vs _=>∃(b:Bool)(k:Nat),vs=[.bool b,i64 k]/\k<=l/\(xs.drop k=ys.drop k↔xs=ys),upTo l 1,⟨false,0,rfl,by omega,by simp⟩,fun b n H' hN hI=> ?_⟩
 obtain⟨b',k,hvs,hk,hI⟩:=hI
 obtain⟨rfl,rfl⟩:b=b'/\n=(k:Int):=by simpa using hvs
 refine⟨fun hlt=>hx.rl hN.ext (by omega) hlt fun m a1 n1 c1 hm hp=>fun b4=>hy.rl hN.ext (by omega) (by omega) fun m' a2 n2 c2 hm' hq=>fun b8=>(cRefAlike (hp.ext' hN.ext) (hq.ext' hN.ext) _ _).bool1 fun H2 e2 _=>⟨fun h=> ?_,fun h=> ?_⟩,fun hge=> ?_⟩
 ·rw[Int.toNat_natCast] at hm hm'
  rw[drop_at hm,drop_at hm'] at hI
  rw[decide_eq_false]
  intro e
  exact absurd (List.cons.inj (hI.2 e)).1 (by rw[rls_eq];simpa using h)
 ·rw[Int.toNat_natCast] at hm hm'
  rw[drop_at hm,drop_at hm'] at hI
  have hpq:m=m':=by rw[rls_eq];simpa using h
  rintro r rfl
  rw[wrap_in (by omega) (by omega)]
  exact⟨⟨b,k+1,rfl,by omega,by rw[←hI];simp[hpq]⟩,by simp[upTo];omega⟩
 ·rw[decide_eq_true]
  exact hI.1 (by rw[drop_all hxl (by omega),drop_all hyl (by omega)])
theorem neq111{xo yo:Operand}(p q:Kn):RunsTo Tryz.prog (binRun .neq 95 xo yo (.agg #[.int .i64 p.st,.int .i64 p.try_,.bool p.back]) (.agg #[.int .i64 q.st,.int .i64 q.try_,.bool q.back])) (.bool (!(p.st==q.st&&p.try_==q.try_&&p.back==q.back))):=by
 intro w
 have u3:= Tryz.underlying3
 have a3:= Tryz.isAgg3
 have z3:= Tryz.sizeOf3
 have u4:= Tryz.underlying4
 have a4:= Tryz.isAgg4
 have z4:= Tryz.sizeOf4
 have hS: Tryz.prog.underlying 95=some (.struct (Tryz.prog.fieldsOf 95)):=by kernel_rfl
 have hp: Tryz.prog.stoodInHeld 95=false:=by kernel_rfl
 have hm: Tryz.prog.eqGuardType Tryz.prog.depth 95=false:=by kernel_rfl
 have he:(Op.equalIn 10000 95 (.agg #[.int .i64 p.st,.int .i64 p.try_,.bool p.back]) (.agg #[.int .i64 q.st,.int .i64 q.try_,.bool q.back])).run Tryz.prog w= .ok (p.st==q.st&&p.try_==q.try_&&p.back==q.back) w:=by
  rw[show(10000:Nat)=9999+1 from rfl,run_equalIn_agg w 9999 95 _ _ hS hp]
  simp only[Program.fieldsOf,Tryz.underlying95]
  go_simp
  by_cases h1:p.st=q.st<;>by_cases h2:p.try_=q.try_<;>by_cases h3:p.back=q.back<;>simp[h1,h2,h3]
 simp only[binRun,Sem.run_bind,run_eqGuard_agg w _ 95 _ _ _ _ hm,Result.andThen_ok,run_neq_struct,he]
theorem cEqKns{H:Heap}{a a':O}{l c l' c':Nat}{xs ys:List Kn}(hx:Kns H a l xs)(hy:Kns H a' l' ys):Spec Tryz.prog 78 [.slice a l c,.slice a' l' c'] H fun v _=>v= .bool (decide (xs=ys)):=by
 refine TryzvcJ Tryz.func78 (by kernel_rfl) (by kernel_rfl) _ rfl (fun base K=>vc138 a a' l c l' c' base H K) fun base hb=> ?_
 have hxl:=hx.len
 have hyl:=hy.len
 have hle:=hx.le
 refine⟨fun hne=> ?_,fun he=> ?_⟩
 ·rw[decide_eq_false];rintro rfl;omega
 refine⟨fun vs _=>∃(b:Bool)(k:Nat),vs=[.bool b,i64 k]/\k<=l/\(xs.drop k=ys.drop k↔xs=ys),upTo l 1,⟨false,0,rfl,by omega,by simp⟩,fun b n H' hN hI=> ?_⟩
 obtain⟨b',k,hvs,hk,hI⟩:=hI
 obtain⟨rfl,rfl⟩:b=b'/\n=(k:Int):=by simpa using hvs
 refine⟨fun hlt=>hx.kn hN.ext (by omega) hlt fun p hp=>hy.kn hN.ext (by omega) (by omega) fun q hq=>⟨_,neq111 p q,fun h=> ?_,fun h=> ?_⟩,fun hge=> ?_⟩
 ·rw[Int.toNat_natCast] at hp hq
  rw[drop_at hp,drop_at hq] at hI
  rw[decide_eq_false]
  intro e
  obtain⟨rfl,_⟩:=List.cons.inj (hI.2 e)
  simp at h
 ·rw[Int.toNat_natCast] at hp hq
  rw[drop_at hp,drop_at hq] at hI
  have hpq:p=q:=by
   cases p;cases q;simp at h;simp[h]
  rintro r rfl
  rw[wrap_in (by omega) (by omega)]
  exact⟨⟨b,k+1,rfl,by omega,by rw[←hI];simp[hpq]⟩,by simp[upTo];omega⟩
 ·rw[decide_eq_true]
  exact hI.1 (by rw[drop_all hxl (by omega),drop_all hyl (by omega)])
theorem ldr_eq{x y:Ldr} :x=y↔x.rels=y.rels/\x.now=y.now/\x.goal=y.goal/\x.back=y.back/\x.ags=y.ags/\x.nx=y.nx:=by cases x;cases y;simp
section
variable {H : Heap} {x y : Ldr} {la ka la' ka' : O} {ll lc kl kc ll' lc' kl' kc' : Nat}
theorem cLdrSame(h:LdrAt H x la ll ka kl)(h':LdrAt H y la' ll' ka' kl'):Spec Tryz.prog 36 [ldrArg x la ll lc ka kl kc,ldrArg y la' ll' lc' ka' kl' kc'] H fun v _=>v= .bool (decide (x=y)):=by
 refine TryzvcJ Tryz.func36 (by kernel_rfl) (by kernel_rfl) _ rfl (fun base K=>vc96 la ka ll lc kl kc x.now x.goal x.nx x.back la' ka' ll' lc' kl' kc' y.now y.goal y.nx y.back base H K) fun base hb=> ?_
 intro b b1
 refine⟨x=y,(cEqRelsA h.rels h'.rels).bool1 fun H1 e1 _=>⟨fun q1=>⟨fun q2=>⟨fun q3=>⟨_,eqBool,fun q4=>(cEqKns (h.ext e1).ags (h'.ext e1).ags).bool1 fun H2 e2 _=>⟨fun q5=>⟨rfl,e1.trans e2,?_⟩,fun q5=>⟨rfl,e1.trans e2,fun e=>by simp[e] at q5⟩⟩,fun q4=>⟨rfl,e1,fun e=>q4 (by simp[e])⟩⟩,fun q3=>⟨rfl,e1,fun e=>q3 (by rw[e])⟩⟩,fun q2=>⟨rfl,e1,fun e=>q2 (by rw[e])⟩⟩,fun q1=>⟨rfl,e1,fun e=>by simp[e] at q1⟩⟩,?_⟩
 ·rw[ldr_eq];simp at q1 q4 q5;simp[q1,q2,q3,q4,q5]
 ·congr 1;exact decide_eq_decide.2 Iff.rfl
theorem cRefLdrSame(h:LdrAt H x la ll ka kl)(h':LdrAt H y la' ll' ka' kl'):Spec Tryz.prog 21 [ldrArg x la ll lc ka kl kc,ldrArg y la' ll' lc' ka' kl' kc'] H fun v _=>v= .bool (decide (x=y)):=by
 refine TryzvcJ Tryz.func21 (by kernel_rfl) (by kernel_rfl) _ rfl (fun base K=>vc88 la ka ll lc kl kc x.now x.goal x.nx x.back la' ka' ll' lc' kl' kc' y.now y.goal y.nx y.back base H K) fun base hb=> ?_
 intro b b1
 refine⟨x=y,(cEqRelsB h.rels h'.rels).bool1 fun H1 e1 _=>⟨fun q1=>⟨fun q2=>⟨fun q3=>⟨_,eqBool,fun q4=>(cEqKns (h.ext e1).ags (h'.ext e1).ags).bool1 fun H2 e2 _=>⟨fun q5=>⟨rfl,e1.trans e2,?_⟩,fun q5=>⟨rfl,e1.trans e2,fun e=>by simp[e] at q5⟩⟩,fun q4=>⟨rfl,e1,fun e=>q4 (by simp[e])⟩⟩,fun q3=>⟨rfl,e1,fun e=>q3 (by rw[e])⟩⟩,fun q2=>⟨rfl,e1,fun e=>q2 (by rw[e])⟩⟩,fun q1=>⟨rfl,e1,fun e=>by simp[e] at q1⟩⟩,?_⟩
 ·rw[ldr_eq];simp at q1 q4 q5;simp[q1,q2,q3,q4,q5]
 ·congr 1;exact decide_eq_decide.2 Iff.rfl
end
section
variable {H : Heap} {c : Conf} {fa ra wa : O} {fl fc rl rc wl wc : Nat} {l : Ldr} {la ka : O} {ll lc kl kc : Nat}
theorem cLdrCheck(hc:CfgAt H c fa fl ra rl wa wl)(h:LdrAt H l la ll ka kl):Spec Tryz.prog 197 [cfgArg c fa fl fc ra rl rc wa wl wc,ldrArg l la ll lc ka kl kc] H fun v _=>v=i64 (ldrErr c l):=by
 refine TryzvcJ Tryz.func197 (by kernel_rfl) (by kernel_rfl) _ rfl (fun base K=>vc77 c.first.id c.bud fa ra wa fl fc rl rc wl wc la ka ll lc kl kc l.now l.goal l.nx l.back base H K) fun base hb=> ?_
 intro b b1
 have hll:=h.rels.len
 have hle:=h.rels.le
 have hkl:=h.ags.len
 have hke:=h.ags.le
 refine(cConfig hc).int1 fun H1 e1 _=>⟨fun q1=>by rw[ldrErr,if_pos q1],fun q1=> ?_⟩
 refine⟨l.rels.length=0∨6<l.rels.length,⟨fun q=>⟨rfl,fun _ _ h=>h,by omega⟩,fun q=>⟨rfl,fun _ _ h=>h,by omega⟩⟩,fun q2=>by rw[ldrErr,if_neg q1,if_pos q2],fun q2=> ?_⟩
 refine⟨fun vs _=>∃(d:Int)(i:Nat),vs=[i64 d,i64 i]/\i<=ll/\relsErr c.rules i (l.rels.drop i)=relsErr c.rules 0 l.rels,upTo ll 1,⟨0,0,rfl,by omega,rfl⟩,fun n n1 H2 hN hI=> ?_⟩
 obtain⟨d,i,hvs,hi,hI⟩:=hI
 obtain⟨rfl,rfl⟩:n=d/\n1=(i:Int):=by simpa using hvs
 refine⟨fun hlt=>h.rels.rl hN.ext (by omega) hlt fun m ma mn mc hm hp=>fun b2=> ?_,fun hge=> ?_⟩
 ·rw[Int.toNat_natCast] at hm
  rw[drop_at hm,relsErr] at hI
  have bad:∀ {e:Int},relsErr c.rules 0 l.rels=e->e≠0->ldrErr c l=e:=fun he h0=>by rw[ldrErr,if_neg q1,if_neg q2,if_pos (by omega),he]
  refine(cBroken (hp.ext' hN.ext) (hc.ext hN.ext).rules).int2 fun H3 e3 _=>⟨fun q3=> ?_,fun q3=>⟨fun q4=> ?_,fun q4=> ?_⟩⟩
  ·rw[if_pos q3] at hI;rw[bad hI.symm q3]
  ·rw[if_neg q3,if_pos q4] at hI;rw[bad hI.symm (by omega)]
  ·rw[if_neg q3,if_neg q4] at hI
   rintro _ rfl
   rw[wrap_in (by omega) (by omega)]
   refine⟨fun q5=> ?_,fun q5=> ?_⟩
   ·rw[if_pos q5] at hI;rw[bad hI.symm (by omega)]
   ·rw[if_neg (by omega)] at hI
    rintro _ rfl
    exact⟨rfl,⟨_,i+1,rfl,by omega,hI⟩,by simp[upTo];omega⟩
 ·rw[drop_all hll (by omega),relsErr] at hI
  have E1:ldrErr c l=if ldrRange l then 3 else if ldrForm c l then 4 else knErr l.goal l.nx l.back l.ags:=by rw[ldrErr,if_neg q1,if_neg q2,if_neg (by omega)]
  refine⟨ldrRange l,?_,fun q3=>by rw[E1,if_pos q3],fun q3=> ?_⟩
  ·unfold ldrRange
   repeat' (first|exact⟨rfl,fun _ _ h=>h,by omega⟩|intro _|refine⟨?_,?_⟩)
  rw[if_neg q3] at E1
  have form:ldrForm c l->ldrErr c l=4:=fun q=>by rw[E1,if_pos q]
  refine⟨fun q4=>by rw[form (.inl q4)],fun q4=>⟨fun q5=>⟨fun q6=>by rw[form (.inr (.inl ⟨q5,q6⟩))],fun q6=> ?_⟩,fun q5=> ?_⟩⟩
  all_goals
   have hgb:¬(l.goal=0/\l.back=true):=by first|exact fun q=>by rw[q6] at q;cases q.2|exact fun q=>q5 q.1
   refine(cAgents (hc.ext hN.ext)).int1 fun H3 e3 _=>⟨fun q7=>by rw[form (.inr (.inr (.inl (by omega))))],fun q7=>h.rels.rl (k:=0) (Ext.trans hN.ext e3) (by omega) (by omega) fun m ma mn mc hm hp=> ?_⟩
   have E3:=Ext.trans hN.ext e3
   have hm0:l.rels[0]?=some m:=hm
   refine(cAlike (hp.ext' E3) (hc.ext E3).pins _ _).bool1 fun H4 e4 _=>⟨fun q8=> ?_,fun q8=> ?_⟩
   ·rw[form (.inr (.inr (.inr (by rw[hm0];intro e;simp at e;subst e;simp at q8))))]
   have hmf:m=c.first:=by rw[rls_eq];simpa using q8
   have hF:¬ldrForm c l:=by
    rintro(q|q|q|q)
    ·exact q4 q
    ·exact hgb q
    ·omega
    ·exact q (by rw[hm0,hmf])
   have E2:ldrErr c l=knErr l.goal l.nx l.back l.ags:=by rw[E1,if_neg hF]
   refine⟨fun vs _=>∃(d:Int)(i:Nat),vs=[i64 d,i64 i]/\i<=kl/\knErr l.goal l.nx l.back (l.ags.drop i)=knErr l.goal l.nx l.back l.ags,upTo kl 1,⟨_,0,rfl,by omega,rfl⟩,fun n2 n3 H5 hN5 hI5=> ?_⟩
   obtain⟨d5,j,hvs5,hj,hI5⟩:=hI5
   obtain⟨rfl,rfl⟩:n2=d5/\n3=(j:Int):=by simpa using hvs5
   refine⟨fun hlt5=>h.ags.kn hN5.ext (by omega) hlt5 fun z hz=>fun b6=> ?_,fun hge5=> ?_⟩
   ·rw[Int.toNat_natCast] at hz
    rw[drop_at hz,knErr] at hI5
    refine⟨badKn l.nx z,?_,fun q9=>by rw[E2,←hI5,if_pos q9],fun q9=> ?_⟩
    ·unfold badKn
     repeat' (first|exact⟨rfl,fun _ _ h=>h,by omega⟩|intro _|refine⟨?_,?_⟩)
    refine⟨oddKn l.goal l.back z,?_,fun q10=>by rw[E2,←hI5,if_neg q9,if_pos q10],fun q10=> ?_⟩
    ·unfold oddKn
     repeat' (first|exact⟨rfl,fun _ _ h=>h,by grind⟩|intro _|refine⟨?_,?_⟩)
    rw[if_neg q9,if_neg q10] at hI5
    rintro _ rfl
    rw[wrap_in (by omega) (by omega)]
    exact⟨rfl,⟨_,j+1,rfl,by omega,hI5⟩,by simp[upTo];omega⟩
   ·rw[drop_all hkl (by omega),knErr] at hI5
    rw[E2,←hI5]
theorem cRefLdrCheck(hc:CfgAt H c fa fl ra rl wa wl)(h:LdrAt H l la ll ka kl):Spec Tryz.prog 155 [cfgArg c fa fl fc ra rl rc wa wl wc,ldrArg l la ll lc ka kl kc] H fun v _=>v=i64 (ldrErr c l):=by
 refine TryzvcJ Tryz.func155 (by kernel_rfl) (by kernel_rfl) _ rfl (fun base K=>vc92 c.first.id c.bud fa ra wa fl fc rl rc wl wc la ka ll lc kl kc l.now l.goal l.nx l.back base H K) fun base hb=> ?_
 intro b b1
 have hll:=h.rels.len
 have hle:=h.rels.le
 have hkl:=h.ags.len
 have hke:=h.ags.le
 refine(cRefConfig hc).int1 fun H1 e1 _=>⟨fun q1=>by rw[ldrErr,if_pos q1],fun q1=> ?_⟩
 have q1':cfgErr c=0:=Decidable.not_not.1 q1
 have hag:=(agents_same (cfgErr_zero q1').2.2.2.2.2.2).1
 refine(cIn (ll:Int) 1 6).bool1 fun H1' e1' _=>⟨fun q=>by rw[ldrErr,if_neg q1,if_pos (by simp[inR] at q;omega)],fun q=> ?_⟩
 have q2:¬(l.rels.length=0∨6<l.rels.length):=by simp[inR] at q;omega
 refine⟨fun vs _=>∃(d:Int)(i:Nat),vs=[i64 d,i64 i]/\i<=ll/\relsErr c.rules i (l.rels.drop i)=relsErr c.rules 0 l.rels,upTo ll 1,⟨0,0,rfl,by omega,rfl⟩,fun n n1 H2 hN hI=> ?_⟩
 obtain⟨d,i,hvs,hi,hI⟩:=hI
 obtain⟨rfl,rfl⟩:n=d/\n1=(i:Int):=by simpa using hvs
 refine⟨fun hlt=>h.rels.rl hN.ext (by omega) hlt fun m ma mn mc hm hp=>fun b2=> ?_,fun hge=> ?_⟩
 ·rw[Int.toNat_natCast] at hm
  rw[drop_at hm,relsErr] at hI
  have bad:∀ {e:Int},relsErr c.rules 0 l.rels=e->e≠0->ldrErr c l=e:=fun he h0=>by rw[ldrErr,if_neg q1,if_neg q2,if_pos (by omega),he]
  refine(cRefBroken (hp.ext' hN.ext) (hc.ext hN.ext).rules).int2 fun H3 e3 _=>⟨fun q3=> ?_,fun q3=>⟨fun q4=> ?_,fun q4=> ?_⟩⟩
  ·rw[if_pos q3] at hI;rw[bad hI.symm q3]
  ·rw[if_neg q3,if_pos q4] at hI;rw[bad hI.symm (by omega)]
  ·rw[if_neg q3,if_neg q4] at hI
   rintro _ rfl
   have hw:IntKind.wrap .i64 (m.id-1)=(i:Int)↔m.id=(i:Int)+1:=by
    exact(h.rels.rg hm).pred (by omega) (by omega)
   refine⟨fun q5=> ?_,fun q5=> ?_⟩
   ·rw[if_pos (by rw[hw] at q5;exact q5)] at hI;rw[bad hI.symm (by omega)]
   ·rw[hw] at q5
    rw[if_neg (by omega)] at hI
    rintro _ rfl
    rw[wrap_in (by omega) (by omega)]
    exact⟨rfl,⟨_,i+1,rfl,by omega,hI⟩,by simp[upTo];omega⟩
 ·rw[drop_all hll (by omega),relsErr] at hI
  have E1:ldrErr c l=if ldrRange l then 3 else if ldrForm c l then 4 else knErr l.goal l.nx l.back l.ags:=by rw[ldrErr,if_neg q1,if_neg q2,if_neg (by omega)]
  refine⟨ldrRange l,?_,fun q3=>by rw[E1,if_pos q3],fun q3=> ?_⟩
  ·unfold ldrRange
   refine(cIn l.now 1 ll).bool1 fun H3 e3 _=>⟨fun w=>⟨rfl,e3,by simp[inR] at w;omega⟩,fun w=>(cIn l.goal 0 ll).bool1 fun H4 e4 _=>⟨fun w2=>⟨rfl,e3.trans e4,by simp[inR] at w2;omega⟩,fun w2=>(cIn l.nx 1 201).bool1 fun H5 e5 _=>⟨rfl,(e3.trans e4).trans e5,by simp[inR] at w w2⊢;omega⟩⟩⟩
  rw[if_neg q3] at E1
  have form:ldrForm c l->ldrErr c l=4:=fun q=>by rw[E1,if_pos q]
  refine⟨fun q4=>by rw[form (.inl q4.symm)],fun q4=>⟨fun q6=>⟨fun q5=>by rw[form (.inr (.inl ⟨q5,q6⟩))],fun q5=> ?_⟩,fun q6=> ?_⟩⟩
  all_goals
   have hgb:¬(l.goal=0/\l.back=true):=by first|exact fun q=>q5 q.1|exact fun q=>by rw[q6] at q;cases q.2
   refine(cRefAgents (hc.ext hN.ext)).int1 fun H3 e3 _=>⟨fun q7=>by rw[form (.inr (.inr (.inl (by omega))))],fun q7=>h.rels.rl (k:=0) (Ext.trans hN.ext e3) (by omega) (by omega) fun m ma mn mc hm hp=> ?_⟩
   have E3:=Ext.trans hN.ext e3
   have hm0:l.rels[0]?=some m:=hm
   refine(cRefAlike (hp.ext' E3) (hc.ext E3).pins _ _).bool1 fun H4 e4 _=>⟨fun q8=> ?_,fun q8=> ?_⟩
   ·rw[form (.inr (.inr (.inr (by rw[hm0];intro e;simp at e;subst e;simp at q8))))]
   have hmf:m=c.first:=by rw[rls_eq];simpa using q8
   have hF:¬ldrForm c l:=by
    rintro(q|q|q|q)
    ·exact q4 q.symm
    ·exact hgb q
    ·omega
    ·exact q (by rw[hm0,hmf])
   have E2:ldrErr c l=knErr l.goal l.nx l.back l.ags:=by rw[E1,if_neg hF]
   refine⟨fun vs _=>∃(d:Int)(i:Nat),vs=[i64 d,i64 i]/\i<=kl/\knErr l.goal l.nx l.back (l.ags.drop i)=knErr l.goal l.nx l.back l.ags,upTo kl 1,⟨_,0,rfl,by omega,rfl⟩,fun n2 n3 H5 hN5 hI5=> ?_⟩
   obtain⟨d5,j,hvs5,hj,hI5⟩:=hI5
   obtain⟨rfl,rfl⟩:n2=d5/\n3=(j:Int):=by simpa using hvs5
   refine⟨fun hlt5=>h.ags.kn hN5.ext (by omega) hlt5 fun z hz=>fun b6=> ?_,fun hge5=> ?_⟩
   ·rw[Int.toNat_natCast] at hz
    rw[drop_at hz,knErr] at hI5
    have hnx:1<=l.nx/\l.nx<=201:=by unfold ldrRange at q3;omega
    refine⟨badKn l.nx z,?_,fun q9=>by rw[E2,←hI5,if_pos q9],fun q9=> ?_⟩
    ·unfold badKn
     refine(cIn z.st 0 3).bool1 fun H6 e6 _=>⟨fun w=>⟨rfl,e6,by simp[inR] at w;omega⟩,fun w=> ?_⟩
     rintro _ rfl
     rw[wrap_in (by omega) (by omega)]
     exact(cIn z.try_ 0 (l.nx-1)).bool1 fun H7 e7 _=>⟨rfl,e6.trans e7,by simp[inR] at w⊢;omega⟩
    refine⟨oddKn l.goal l.back z,?_,fun q10=>by rw[E2,←hI5,if_neg q9,if_pos q10],fun q10=> ?_⟩
    ·unfold oddKn
     repeat' (first|exact⟨rfl,fun _ _ h=>h,by grind⟩|intro _|refine⟨?_,?_⟩)
    rw[if_neg q9,if_neg q10] at hI5
    rintro _ rfl
    rw[wrap_in (by omega) (by omega)]
    exact⟨rfl,⟨_,j+1,rfl,by omega,hI5⟩,by simp[upTo];omega⟩
   ·rw[drop_all hkl (by omega),knErr] at hI5
    rw[E2,←hI5]
end
open Go Go.Proofs
def bIdx(v:Bool):Int->List Bool->Int
 |_,[]=> -1
 |i,x::r=>if v=x then i else bIdx v (i+1) r
theorem bIdx_mem(v:Bool):∀(l:List Bool)(i:Int),0<=i->(0<=bIdx v i l↔v∈l)
 | [],i,_=>by simp[bIdx]
 |x::r,i,h=>by
  unfold bIdx
  split
  ·rename_i e;subst e;simp[h]
  ·rename_i e;rw[bIdx_mem v r (i+1) (by omega)];simp[e]
theorem cHasBool{H:Heap}{a:O}{l c:Nat}{xs:List Bool}(hx:Sl RBool 1 H a l xs)(v:Bool):Spec Tryz.prog 255 [.slice a l c,.bool v] H fun r _=>r= .bool (decide (v∈xs)):=by
 have h155:Spec Tryz.prog 274 [.slice a l c,.bool v] H fun r _=>r=i64 (bIdx v 0 xs):=by
  refine TryzvcJ Tryz.func274 (by kernel_rfl) (by kernel_rfl) _ rfl (fun base K=>vc155 a l c v base H K) fun base hb=> ?_
  have hle:=hx.le
  refine⟨fun vs _=>∃(d:Int)(k:Nat),vs=[i64 d,i64 k]/\k<=l/\bIdx v k (xs.drop k)=bIdx v 0 xs,upTo l 1,⟨0,0,rfl,by omega,rfl⟩,fun d n H' hN hI=> ?_⟩
  obtain⟨d',k,hvs,hk,hI⟩:=hI
  obtain⟨rfl,rfl⟩:d=d'/\n=(k:Int):=by simpa using hvs
  refine⟨fun hlt=>hx.bool hN.ext (by omega) hlt fun y hy=>⟨_,eqBool,fun he=> ?_,fun he=> ?_⟩,fun hge=> ?_⟩
  ·rw[Int.toNat_natCast] at hy
   rw[drop_at hy,bIdx,if_pos (by simpa using he)] at hI
   rw[hI]
  ·rw[Int.toNat_natCast] at hy
   rw[drop_at hy,bIdx,if_neg (by simpa using he)] at hI
   rintro r rfl
   rw[wrap_in (by omega) (by omega)]
   exact⟨⟨d,k+1,rfl,by omega,hI⟩,by simp[upTo];omega⟩
  ·rw[drop_all hx.len (by omega),bIdx] at hI;rw[hI]
 refine TryzvcJ Tryz.func255 (by kernel_rfl) (by kernel_rfl) _ rfl (fun base K=>vc151 a l c v base H K) fun base hb=> ?_
 refine h155.int1 fun H' _ _=> ?_
 simp[bIdx_mem v xs 0 (by omega)]
theorem cBusy{H:Heap}(a:Kn):Spec Tryz.prog 257 [.agg #[.int .i64 a.st,.int .i64 a.try_,.bool a.back]] H fun v _=>v= .bool (decide (busy a)):=by
 refine TryzvcJ Tryz.func257 (by kernel_rfl) (by kernel_rfl) _ rfl (fun base K=>vc152 a.st a.try_ a.back base H K) fun base hb=> ?_
 intro b
 refine⟨busy a,?_,by congr 1;exact decide_eq_decide.2 Iff.rfl⟩
 unfold busy
 repeat' (first|exact⟨rfl,fun _ _ h=>h,by grind⟩|intro _|refine⟨?_,?_⟩)
def knIdx(f:Kn->Bool):Int->List Kn->Int
 |_,[]=> -1
 |i,x::r=>if f x=true then i else knIdx f (i+1) r
theorem knIdx_any(f:Kn->Bool):∀(l:List Kn)(i:Int),0<=i->(0<=knIdx f i l↔l.any f=true)
 | [],i,_=>by simp[knIdx]
 |x::r,i,h=>by
  unfold knIdx
  split
  ·rename_i e;simp[h,e]
  ·rename_i e;rw[knIdx_any f r (i+1) (by omega)];simp[e]
theorem cAnyBusy{H:Heap}{a:O}{l c:Nat}{xs:List Kn}(hx:Kns H a l xs):Spec Tryz.prog 256 [.slice a l c,.func (.func 257) #[] #[]] H fun r _=>r= .bool (xs.any fun a=>decide (busy a)):=by
 have h136:Spec Tryz.prog 275 [.slice a l c,.func (.func 257) #[] #[]] H fun r _=>r=i64 (knIdx (fun a=>decide (busy a)) 0 xs):=by
  refine TryzvcJ Tryz.func275 (by kernel_rfl) (by kernel_rfl) _ rfl (fun base K=>vc136a a l c base H K) fun base hb=> ?_
  have hle:=hx.le
  refine⟨fun vs _=>∃(d:Int)(k:Nat),vs=[i64 d,i64 k]/\k<=l/\knIdx (fun a=>decide (busy a)) k (xs.drop k)=knIdx (fun a=>decide (busy a)) 0 xs,upTo l 1,⟨0,0,rfl,by omega,rfl⟩,fun d n H' hN hI=> ?_⟩
  obtain⟨d',k,hvs,hk,hI⟩:=hI
  obtain⟨rfl,rfl⟩:d=d'/\n=(k:Int):=by simpa using hvs
  refine⟨fun hlt=>hx.kn hN.ext (by omega) hlt fun y hy=>(cBusy y).bool1 fun H2 e2 _=>⟨fun he=> ?_,fun he=> ?_⟩,fun hge=> ?_⟩
  ·rw[Int.toNat_natCast] at hy
   rw[drop_at hy,knIdx,if_pos he] at hI
   rw[hI]
  ·rw[Int.toNat_natCast] at hy
   rw[drop_at hy,knIdx,if_neg (by rw[he];simp)] at hI
   rintro r rfl
   rw[wrap_in (by omega) (by omega)]
   exact⟨⟨d,k+1,rfl,by omega,hI⟩,by simp[upTo];omega⟩
  ·rw[drop_all hx.len (by omega),knIdx] at hI;rw[hI]
 refine TryzvcJ Tryz.func256 (by kernel_rfl) (by kernel_rfl) _ rfl (fun base K=>vc82a a l c base H K) fun base hb=> ?_
 refine h136.int1 fun H' _ _=> ?_
 have:=knIdx_any (fun a=>decide (busy a)) xs 0 (by omega)
 congr 1
 cases hany:xs.any (fun a=>decide (busy a))
 ·rw[decide_eq_false (by rw[this,hany];simp)]
 ·rw[decide_eq_true (this.2 hany)]
section
variable {H : Heap} {c : Conf} {fa ra wa : O} {fl fc rl rc wl wc : Nat} {l : Ldr} {la ka : O} {ll lc kl kc : Nat}
theorem thr_len(l:List Kn):(thr l).length=l.length:=by simp[thr]
theorem cTurn(hc:CfgAt H c fa fl ra rl wa wl)(h:LdrAt H l la ll ka kl)(h6:l.ags.length<=6){k:Int}(h0:0<=k)(h1:k<kl):Spec Tryz.prog 231 [cfgArg c fa fl fc ra rl rc wa wl wc,ldrArg l la ll lc ka kl kc,i64 k] H fun v _=>v= .bool (turnOf c l k):=by
 refine TryzvcJ Tryz.func231 (by kernel_rfl) (by kernel_rfl) _ rfl (fun base K=>vc134 c.first.id c.bud fa ra wa fl fc rl rc wl wc la ka ll lc kl kc l.now l.goal l.nx l.back k base H K) fun base hb=> ?_
 intro b b1
 refine h.ags.kn (Ext.refl _) h0 h1 fun m hm=>fun b4=>⟨fun q=> ?_,fun q=> ?_⟩
 ·refine⟨m.st≠0/\m.back=false,⟨fun w=>⟨rfl,fun _ _ h=>h,by simp[w]⟩,fun w=>⟨rfl,fun _ _ h=>h,fun w2=>w w2.1⟩⟩,?_⟩
  unfold turnOf
  rw[hm]
  simp only[q,if_true]
  congr 1;exact decide_eq_decide.2 Iff.rfl
 ·have hT0:turnOf c l k=decide (waveCheck c.waves l.ags.length=0/\m.st=0/\waveOf c.waves k=waveNow c.waves (thr l.ags)/\cnt 3 l.ags<=c.bud):=by
   unfold turnOf
   rw[hm]
   simp[q]
  rw[hT0]
  refine(cThrough h h6).sl1 fun a n c' H1 e1 _ hT=> ?_
  refine(cWaveNow (hc.ext e1).waves hT).int2 fun H2 e2 _=> ?_
  rw[thr_len]
  refine⟨fun w1=>⟨fun w2=> ?_,fun w2=>by simp[w2]⟩,fun w1=>by simp[w1]⟩
  refine(cWaveOf (hc.ext (e1.trans e2)).waves k).int1 fun H3 e3 _=>⟨fun w3=> ?_,fun w3=>by simp[w3]⟩
  exact(cIll (h.ext ((e1.trans e2).trans e3))).int1 fun H4 e4 _=>by simp[w1,w2,w3]
theorem cOver(hc:CfgAt H c fa fl ra rl wa wl)(h:LdrAt H l la ll ka kl)(h6:l.ags.length<=6):Spec Tryz.prog 232 [cfgArg c fa fl fc ra rl rc wa wl wc,ldrArg l la ll lc ka kl kc] H fun v _=>v= .bool (overOf c l):=by
 refine TryzvcJ Tryz.func232 (by kernel_rfl) (by kernel_rfl) _ rfl (fun base K=>vc135 c.first.id c.bud fa ra wa fl fc rl rc wl wc la ka ll lc kl kc l.now l.goal l.nx l.back base H K) fun base hb=> ?_
 intro b b1
 refine⟨fun q=> ?_,fun q=> ?_⟩
 ·have hO:overOf c l=decide (cnt 3 l.ags<=c.bud/\false∉thr l.ags):=by unfold overOf;rw[if_pos q]
  rw[hO]
  refine(cIll h).int1 fun H1 e1 _=>⟨fun w=>(cThrough (h.ext e1) h6).sl1 fun a n c' H2 e2 _ hT=>(cHasBool hT false).bool1 fun H3 e3 _=> ?_,fun w=>by simp[w]⟩
  simp[w]
 ·have hO:overOf c l=decide (∀a∈l.ags,¬busy a):=by unfold overOf;rw[if_neg q]
  rw[hO]
  refine(cAnyBusy h.ags).bool1 fun H1 e1 _=> ?_
  congr 1
  rw[decide_eq_decide]
  simp
theorem notThr{l:List Kn}{a:Int}(h0:0<=a){m:Kn}(hm:l[a.toNat]?=some m):notThrough (thr l) a=true↔ ¬(m.st=2∨m.st=3):=by
 unfold notThrough thr
 rw[List.getElem?_map,hm]
 simp
theorem cRefTurn(hc:CfgAt H c fa fl ra rl wa wl)(h:LdrAt H l la ll ka kl)(hE:ldrErr c l=0){k:Int}(h0:0<=k)(h1:k<kl):Spec Tryz.prog 157 [cfgArg c fa fl fc ra rl rc wa wl wc,ldrArg l la ll lc ka kl kc,i64 k] H fun v _=>v= .bool (turnOf c l k):=by
 refine TryzvcJ Tryz.func157 (by kernel_rfl) (by kernel_rfl) _ rfl (fun base K=>vc100 c.first.id c.bud fa ra wa fl fc rl rc wl wc la ka ll lc kl kc l.now l.goal l.nx l.back k base H K) fun base hb=> ?_
 intro b b1
 obtain⟨g1,g2,g3,g4,g5,g6,g7⟩:=ldrErr_zero.1 hE
 have hkl:=h.ags.len
 have hag:(l.ags.length:Int)=agentsOf c.waves:=by
  by_cases q:(l.ags.length:Int)=agentsOf c.waves
  ·exact q
  ·exact absurd (.inr (.inr (.inl q))) g6
 have hwc:=(cfgErr_zero g1).2.2.2.2.2.2
 rw[←hag] at hwc
 have hwz:=waveCheck_zero hwc
 have hkn:=knErr_zero.1 g7
 refine h.ags.kn (Ext.refl _) h0 h1 fun m hm=>fun b4=>⟨fun q=> ?_,fun q=> ?_⟩
 ·refine⟨m.st≠0/\m.back=false,⟨fun w=>⟨rfl,fun _ _ h=>h,by simp[w]⟩,fun w=>⟨rfl,fun _ _ h=>h,fun w2=>w w2.2⟩⟩,?_⟩
  unfold turnOf
  rw[hm]
  simp only[q,if_true]
  congr 1;exact decide_eq_decide.2 Iff.rfl
 ·have hT0:turnOf c l k=decide (m.st=0/\waveOf c.waves k=waveNow c.waves (thr l.ags)/\cnt 3 l.ags<=c.bud):=by
   unfold turnOf
   rw[hm]
   simp[q,hwc]
  rw[hT0]
  refine⟨fun w1=>by simp[w1],fun w1=> ?_⟩
  have hm0:m.st=0:=by omega
  refine(cCounted h 3).int1 fun H1 e1 _=>⟨fun w2=>by rw[decide_eq_false (by omega)],fun w2=> ?_⟩
  have hT1:decide (m.st=0/\waveOf c.waves k=waveNow c.waves (thr l.ags)/\cnt 3 l.ags<=c.bud)=decide (waveOf c.waves k=waveNow c.waves (thr l.ags)):=by
   rw[decide_eq_decide]
   exact⟨fun x=>x.2.1,fun x=>⟨hm0,x,by omega⟩⟩
  rw[hT1]
  have hnow:∃n:Nat,waveNow c.waves (thr l.ags)=n/\IsNow c.waves (thr l.ags) n:=by
   obtain⟨n,hn,hI⟩:=nowFrom_spec (thr l.ags) c.waves 0
   exact⟨n,by rw[waveNow,thr_len,if_pos hwc,hn];omega,hI⟩
  obtain⟨N,hN,hIs⟩:=hnow
  rw[hN]
  have hnk:notThrough (thr l.ags) k=true:=(notThr h0 hm).2 (by omega)
  have hwl:=hc.waves.len
  have hwe:=hc.waves.le
  refine⟨fun vs _=>∃(d:Bool)(i:Nat),vs=[.bool d,i64 i]/\i<=wl/\i<=N/\∀(j:Nat) w,j<i->c.waves[j]?=some w->k∉w,upTo wl 1,⟨_,0,rfl,by omega,by omega,fun j w hj=>by omega⟩,fun d n3 H2 hN2 hI=> ?_⟩
  obtain⟨d',i,hvs,hi,hiN,hI⟩:=hI
  obtain⟨rfl,rfl⟩:d=d'/\n3=(i:Int):=by simpa using hvs
  refine⟨fun hlt=>hc.waves.slice hN2.ext (by omega) hlt fun w a' n' c' hw hs=> ?_,fun hge=> ?_⟩
  ·rw[Int.toNat_natCast] at hw
   have hwf:∀x∈w,x∈c.waves.flatten:=fun x hx=>List.mem_flatten.2 ⟨w,List.mem_of_getElem? hw,hx⟩
   refine(cContains (hs.ext RInt.mono hN2.ext) k).bool1 fun H3 e3 _=>⟨fun w3=> ?_,fun w3=> ?_⟩
   ·have hkw:k∈w:=by simpa using w3
    have hof:waveOf c.waves k=i:=by
     rcases waveOfFrom_spec k c.waves 0 with⟨_,x⟩|⟨j,v,x1,x2,x3,x4⟩
     ·exact absurd (hwf k hkw) x
     ·have:j=i:=by
       rcases Nat.lt_trichotomy j i with y|y|y
       ·exact absurd x3 (hI j v y x2)
       ·exact y
       ·exact absurd hkw (x4 i w y hw)
      unfold waveOf;rw[x1,this];omega
    have hNi:N=i:=by
     rcases Nat.lt_or_ge i N with y|y
     ·have:=hIs.ahead i w hw y k hkw
      rw[this] at hnk;cases hnk
     ·omega
    rw[hof,hNi];simp
   ·have hkw:k∉w:=by simpa using w3
    have hsl:=hs.len
    have hse:=hs.le
    refine⟨fun vs _=>∃(d:Bool)(j:Nat),vs=[.bool d,i64 j]/\j<=n'/\∀x∈w.take j,notThrough (thr l.ags) x=false,upTo n' 1,⟨_,0,rfl,by omega,by simp⟩,fun d5 n5 H5 hN5 hI5=> ?_⟩
    obtain⟨d6,j,hvs5,hj,hI5⟩:=hI5
    obtain⟨rfl,rfl⟩:d5=d6/\n5=(j:Int):=by simpa using hvs5
    refine⟨fun hlt5=>hs.int hN5.ext (by omega) hlt5 fun x hx=> ?_,fun hge5=> ?_⟩
    ·rw[Int.toNat_natCast] at hx
     have hxw:x∈w:=List.mem_of_getElem? hx
     have hxr:=(hwz.2.2.2.1 x).1 (hwf x hxw)
     obtain⟨z,hz⟩:∃z,l.ags[x.toNat]?=some z:=⟨_,List.getElem?_eq_getElem (by omega)⟩
     have hzk:=hkn z (List.mem_of_getElem? hz)
     have hzb:=hzk.1
     unfold badKn at hzb
     obtain⟨b9,o9,r9,z9,ha9,hz9,hr9,hc9⟩:=h.ags.get hxr.1 (by omega:x<(kl:Int))
     rw[hz] at hz9
     obtain rfl:=Option.some.inj hz9
     obtain rfl:=hr9
     refine⟨b9,o9,ha9,hxr.1,by omega,z.st,Heap.cell_next hN5.ext (hc9 0 _ rfl),fun y=> ?_,fun y=> ?_⟩
     ·rw[decide_eq_false]
      intro e
      have hNi:N=i:=by
       rcases Nat.lt_or_ge i N with u|u
       ·have:=hIs.ahead i w hw u x hxw
        rw[(notThr hxr.1 hz).2 (by omega)] at this;cases this
       ·omega
      rcases waveOfFrom_spec k c.waves 0 with⟨x1,_⟩|⟨j',v,x1,x2,x3,_⟩
      ·unfold waveOf at e;omega
      ·have:j'=i:=by unfold waveOf at e;omega
       subst this
       rw[hw] at x2
       obtain rfl:=Option.some.inj x2
       exact hkw x3
     ·rintro _ rfl
      rw[wrap_in (by omega) (by omega)]
      refine⟨rfl,⟨_,j+1,rfl,by omega,fun u hu=> ?_⟩,by simp[upTo];omega⟩
      rw[take_at hx] at hu
      rcases List.mem_append.1 hu with hu|hu
      ·exact hI5 u hu
      ·simp at hu;subst hu
       cases hnt:notThrough (thr l.ags) u with
       |false=>rfl
       |true=>exact absurd (by omega) ((notThr hxr.1 hz).1 hnt)
    ·rw[List.take_of_length_le (by omega)] at hI5
     rintro _ rfl
     rw[wrap_in (by omega) (by omega)]
     have hNi:i<N:=by
      rcases Nat.lt_or_ge i N with u|u
      ·exact u
      ·obtain⟨v,hv,x,hx,hnx⟩:=hIs.here (by omega)
       have:N=i:=by omega
       subst this
       rw[hw] at hv
       obtain rfl:=Option.some.inj hv
       rw[hI5 x hx] at hnx;cases hnx
     refine⟨rfl,⟨_,i+1,rfl,by omega,by omega,fun j' w' hj' hw'=> ?_⟩,by simp[upTo];omega⟩
     rcases Nat.lt_or_ge j' i with u|u
     ·exact hI j' w' u hw'
     ·have:j'=i:=by omega
      subst this
      rw[hw] at hw'
      obtain rfl:=Option.some.inj hw'
      exact hkw
  ·have hkf:=(hwz.2.2.2.1 k).2 ⟨h0,by omega⟩
   obtain⟨w,hw,hkw⟩:=List.mem_flatten.1 hkf
   obtain⟨j,hj⟩:=List.getElem?_of_mem hw
   exact absurd hkw (hI j w (by have:=(List.getElem?_eq_some_iff.1 hj).1;omega) hj)
theorem cnt_cons(k:Int)(a:Kn)(q:List Kn):cnt k (a::q)=cnt k q+if a.st=k then 1 else 0:=by
 unfold cnt;by_cases h:a.st=k<;>simp[h]
theorem cnt_all{l:List Kn} :cnt 2 l+cnt 3 l=l.length↔false∉thr l:=by
 have key:∀l:List Kn,cnt 2 l+cnt 3 l<=l.length/\(cnt 2 l+cnt 3 l=l.length↔false∉thr l):=by
  intro l
  induction l with
  |nil=>simp[cnt,thr]
  |cons a q ih=>
   obtain⟨h1,h2⟩:=ih
   rw[cnt_cons,cnt_cons]
   have e:thr (a::q)=decide (a.st=2∨a.st=3)::thr q:=rfl
   rw[e]
   simp only[List.length_cons,List.mem_cons,not_or]
   rw[←h2]
   by_cases c2:a.st=2
   ·simp[c2];omega
   ·by_cases c3:a.st=3
    ·simp[c3];omega
    ·simp[c2,c3];omega
 exact(key l).2
theorem cRefOver(hc:CfgAt H c fa fl ra rl wa wl)(h:LdrAt H l la ll ka kl)(hE:ldrErr c l=0):Spec Tryz.prog 158 [cfgArg c fa fl fc ra rl rc wa wl wc,ldrArg l la ll lc ka kl kc] H fun v _=>v= .bool (overOf c l):=by
 refine TryzvcJ Tryz.func158 (by kernel_rfl) (by kernel_rfl) _ rfl (fun base K=>vc98 c.first.id c.bud fa ra wa fl fc rl rc wl wc la ka ll lc kl kc l.now l.goal l.nx l.back base H K) fun base hb=> ?_
 intro b b1
 obtain⟨g1,g2,g3,g4,g5,g6,g7⟩:=ldrErr_zero.1 hE
 have hkn:=knErr_zero.1 g7
 have hkl:=h.ags.len
 have hke:=h.ags.le
 refine⟨fun q=> ?_,fun q=> ?_⟩
 ·have hO:overOf c l=decide (cnt 3 l.ags<=c.bud/\false∉thr l.ags):=by unfold overOf;rw[if_pos q]
  rw[hO]
  refine(cCounted h 2).int1 fun H1 e1 _=>(cCounted (h.ext e1) 3).int1 fun H2 e2 _=> ?_
  have r2:=cnt_range 2 l.ags
  have r3:=cnt_range 3 l.ags
  have ha:=cnt_all (l:=l.ags)
  have hsum:cnt 2 l.ags+cnt 3 l.ags<=9223372036854775807:=by
   have hag:(l.ags.length:Int)=agentsOf c.waves:=by
    by_cases q:(l.ags.length:Int)=agentsOf c.waves
    ·exact q
    ·exact absurd (.inr (.inr (.inl q))) g6
   have:=(agents_same (cfgErr_zero g1).2.2.2.2.2.2).2
   omega
  rintro _ rfl
  rw[wrap_in (by omega) (by omega)]
  refine⟨fun w=>(cCounted (h.ext (e1.trans e2)) 3).int1 fun H3 e3 _=> ?_,fun w=> ?_⟩
  ·have:=ha.1 (by omega)
   simp[this]
  ·have:¬false∉thr l.ags:=fun x=>w (by have:=ha.2 x;omega)
   rw[decide_eq_false (fun x=>this x.2)]
 ·have hO:overOf c l=decide (∀a∈l.ags,¬busy a):=by unfold overOf;rw[if_neg q]
  rw[hO]
  refine⟨fun vs _=>∃(d:Bool)(i:Nat),vs=[.bool d,i64 i]/\i<=kl/\∀a∈l.ags.take i,¬busy a,upTo kl 1,⟨_,0,rfl,by omega,by simp⟩,fun d n H' hN hI=> ?_⟩
  obtain⟨d',i,hvs,hi,hI⟩:=hI
  obtain⟨rfl,rfl⟩:d=d'/\n=(i:Int):=by simpa using hvs
  refine⟨fun hlt=>h.ags.kn hN.ext (by omega) hlt fun m hm=>fun b5=> ?_,fun hge=> ?_⟩
  ·rw[Int.toNat_natCast] at hm
   have hmm:=List.mem_of_getElem? hm
   have hmb:=(hkn m hmm).1
   unfold badKn at hmb
   refine⟨busy m,?_,fun w=> ?_,fun w=> ?_⟩
   ·unfold busy
    refine⟨fun w=>⟨rfl,fun _ _ h=>h,.inl w⟩,fun w=>⟨fun w2=>⟨rfl,fun _ _ h=>h,?_⟩,fun w2=>⟨rfl,fun _ _ h=>h,?_⟩⟩⟩
    ·exact⟨fun x=>by rcases x with x|x;exact absurd x w;exact x.2,fun x=> .inr ⟨by omega,x⟩⟩
    ·rintro(x|x)
     ·exact w x
     ·have:=x.1;omega
   ·rw[decide_eq_false (fun x=>x m hmm w)]
   ·rintro _ rfl
    rw[wrap_in (by omega) (by omega)]
    refine⟨rfl,⟨_,i+1,rfl,by omega,fun a ha=> ?_⟩,by simp[upTo];omega⟩
    rw[take_at hm] at ha
    rcases List.mem_append.1 ha with ha|ha
    ·exact hI a ha
    ·simp at ha;subst ha;exact w
  ·rw[List.take_of_length_le (by omega)] at hI
   rw[decide_eq_true hI]
end
open Go Go.Proofs
theorem cCloneRels{H:Heap}{a:O}{l c:Nat}{ms:List Rls}(hx:Rels H a l ms)(hl:l<=100000):Spec Tryz.prog 216 [.slice a l c] H fun v H'=>∃a n c rs,v= .slice a n c/\Fresh H H' 24 2 a n c rs.flatten/\(∀r∈rs,r.length=2)/\AllR RRl H rs ms:=by
 refine TryzvcJ Tryz.func216 (by kernel_rfl) (by kernel_rfl) _ rfl (fun base K=>vc147 a l c base H K) fun base hb=>⟨_,eqNil Tryz.underlying29,fun h=> ?_,fun h=> ?_⟩
 ·obtain rfl:a=none:=by cases a<;>simp at h⊢
  obtain⟨_,rfl⟩:=hx.addr_nil
  exact⟨none,0,0,[],rfl,Fresh.zero,by simp,trivial⟩
 ·intro g H1 hN1 _ hg
  obtain⟨rs,h1,h2,h3,h4⟩:=hx.rows RRl.len
  exact⟨[],_,Row.zero,h3,allOne_rows RRl.one h2,h4.imp id (fun⟨b,o,hb,hc⟩=>⟨b,o,hb,cellsAt_ext hN1.ext hc⟩),by omega,by omega,fun a3 c3 H3 hG hR=>⟨_,_,_,rs,rfl,hR.fresh hb,h1,h2⟩⟩
theorem cCloneKns{H:Heap}{a:O}{l c:Nat}{xs:List Kn}(hx:Kns H a l xs)(hl:l<=100000):Spec Tryz.prog 217 [.slice a l c] H fun v H'=>∃a n c,v= .slice a n c/\Fresh H H' 95 3 a n c (xs.flatMap knCells):=by
 refine TryzvcJ Tryz.func217 (by kernel_rfl) (by kernel_rfl) _ rfl (fun base K=>vc148 a l c base H K) fun base hb=>⟨_,eqNil Tryz.underlying30,fun h=> ?_,fun h=> ?_⟩
 ·obtain rfl:a=none:=by cases a<;>simp at h⊢
  obtain⟨_,rfl⟩:=hx.addr_nil
  exact⟨none,0,0,rfl,Fresh.zero⟩
 ·intro g H1 hN1 _ hg
  obtain⟨hc1,hc2⟩:=hx.cells knCells_len hN1.ext
  exact⟨[],xs.flatMap knCells,Row.zero,hc1,allOne_flat knCells_one xs,hc2,by omega,by omega,fun a3 c3 H3 hG hR=>⟨_,_,_,rfl,hR.fresh hb⟩⟩
theorem Row.other{base:Nat}{H H':Heap}{e:TypeId}{sz:Nat}{a:O}{n c b o:Nat}{k:KB}{xs vs:List Value}(h:Row base H e sz a n c xs)(hu:Upd H b o k vs H')(hne:c≠0->a≠some ⟨b,0,none⟩):Row base H' e sz a n c xs:=by
 obtain⟨h1,h2,h3,h4⟩:=h
 by_cases hc:c=0
 ·exact⟨h1,h2,h3,.inl ⟨by omega,hc⟩⟩
 ·refine⟨h1,h2,h3,h4.imp id fun⟨g,k',q1,q2,q3,q4⟩=>⟨g,k',q1,q2,?_,q4⟩⟩
  rw[hu.there g (fun e=>hne hc (by rw[q1,e]))];exact q3
theorem Row.stay{base:Nat}{H H':Heap}{f:TypeId}{sy:Nat}{a a' b:O}{c c' nn m d:Nat}{ys:List Value}(h:Row base H f sy b m d ys)(hG:Grew base H H' a c a' c' nn)(hs:c≠0->d≠0->a≠b):Row base H' f sy b m d ys/\(c'≠0->d≠0->a'≠b):=by
 obtain⟨h1,h2,h3,h4⟩:=h
 rcases h4 with⟨h5,h6⟩|⟨g,k,hb,hbase,hH,hr⟩
 ·exact⟨⟨h1,h2,h3,.inl ⟨h5,h6⟩⟩,fun _ hd=>absurd h6 hd⟩
 ·by_cases hd:d=0
  ·exact⟨⟨h1,h2,h3,.inl ⟨by omega,hd⟩⟩,fun _ h=>absurd hd h⟩
  ·refine⟨⟨h1,h2,h3,.inr ⟨g,k,hb,hbase,hG.keep g k hH ?_,hr⟩⟩,fun hc' _ e=> ?_⟩
   ·by_cases hc:c=0
    ·exact .inl hc
    ·exact .inr fun e=>hs hc hd (by rw[e,hb])
   ·rcases hG.place hc' g (by rw[e,hb]) with h|⟨h,hc⟩
    ·rw[hH] at h;cases h
    ·exact hs hc hd (by rw[←h,e])
theorem OwnSl.other{α:Type}{R:Rep α}{sz:Nat}{e:TypeId}{base:Nat}{G H H':Heap}{a:O}{n c b o:Nat}{k:KB}{vs:List Value}{rows:List (List Value)}{xs:List α}(h:OwnSl R sz e base G H a n c rows xs)(hu:Upd H b o k vs H')(hne:c≠0->a≠some ⟨b,0,none⟩)(hG:G b=none):
  OwnSl R sz e base G H' a n c rows xs:=
 ⟨h.row.other hu hne,h.wid,h.all,fun x k hx=>by
  rw[hu.there x (fun e=>by rw[e,hG] at hx;cases hx)];exact h.sub x k hx,h.clear⟩
structure OwnL(base:Nat)(G H:Heap)(l:Ldr)(la:O)(ll lc:Nat)(ka:O)(kl kc:Nat)(rows:List (List Value)):Prop where
 rels:OwnSl RRl 2 24 base G H la ll lc rows l.rels
 ags:Row base H 95 3 ka kl kc (l.ags.flatMap knCells)
 apart:lc≠0->kc≠0->la≠ka
 clear:kc≠0->∀g,ka=some ⟨g,0,none⟩->G g=none
structure NewL(H G H':Heap)(l:Ldr)(la:O)(ll lc:Nat)(ka:O)(kl kc:Nat)(rows:List (List Value)):Prop where
 rels:NewSl RRl 2 24 H G H' la ll lc rows l.rels
 ags:Fresh H H' 95 3 ka kl kc (l.ags.flatMap knCells)
 apart:lc≠0->kc≠0->la≠ka
 clear:kc≠0->∀g,ka=some ⟨g,0,none⟩->G g=none
theorem NewL.own{base:Nat}{H G H':Heap}{l:Ldr}{la ka:O}{ll lc kl kc:Nat}{rows:List (List Value)}(h:NewL H G H' l la ll lc ka kl kc rows)(hN:Next base H H'):OwnL base G H' l la ll lc ka kl kc rows:=
 ⟨h.rels.own hN,h.ags.row hN,h.apart,h.clear⟩
theorem kns_row{base:Nat}{H:Heap}{ka:O}{kl kc:Nat}{xs:List Kn}(h:Row base H 95 3 ka kl kc (xs.flatMap knCells)):Kns H ka kl xs:=sl_of_rowE knCells_len (by omega) h
theorem OwnL.at_{base:Nat}{G H:Heap}{l:Ldr}{la ka:O}{ll lc kl kc:Nat}{rows:List (List Value)}(h:OwnL base G H l la ll lc ka kl kc rows):LdrAt H l la ll ka kl:=⟨h.rels.sl RRl.mono (by omega),kns_row h.ags⟩
theorem OwnL.ext{base:Nat}{G H H':Heap}{l:Ldr}{la ka:O}{ll lc kl kc:Nat}{rows:List (List Value)}(h:OwnL base G H l la ll lc ka kl kc rows)(x:Ext H H'):OwnL base G H' l la ll lc ka kl kc rows:=⟨h.rels.ext x,h.ags.ext x,h.apart,h.clear⟩
theorem cCopyL{H:Heap}{l:Ldr}{la ka:O}{ll lc kl kc:Nat}(h:LdrAt H l la ll ka kl)(hl1:ll<=100000)(hl2:kl<=100000)(hk:∀m∈l.rels,m.lock.length<=100000):
  Spec Tryz.prog 170 [ldrArg l la ll lc ka kl kc] H fun v H'=>∃la ll lc ka kl kc G rows,v=ldrArg l la ll lc ka kl kc/\NewL H G H' l la ll lc ka kl kc rows:=by
 refine TryzvcJ Tryz.func170 (by kernel_rfl) (by kernel_rfl) _ rfl (fun base K=>vc129 la ka ll lc kl kc l.now l.goal l.nx l.back base H K) fun base hb=> ?_
 intro b b0
 have hml:=h.rels.len
 refine(cCloneRels h.rels hl1).mono fun v H1 e1 hv=> ?_
 obtain⟨a1,n1,c1,rs,rfl,hF,hw,hA⟩:=hv
 refine⟨a1,n1,c1,rfl,fun hN1=> ?_⟩
 refine(cCloneKns (h.ext e1).ags hl2).mono fun v H2 e2 hv=> ?_
 obtain⟨a2,n2,c2,rfl,hF2⟩:=hv
 refine⟨a2,n2,c2,rfl,fun hN2=> ?_⟩
 have hR:=(hF.row hN1).ext e2
 have hK:=hF2.row hN2
 have hrl:rs.length=n1:=by
  have:=hR.1
  rw[flat_wid hw] at this
  omega
 have hrm:=hA.len
 have hapart:c1≠0->c2≠0->a1≠a2:=fun q1 q2 e=>by
  rcases hF.2.2.2 with⟨_,h0⟩|⟨g,k,w1,w2,w3,_⟩
  ·exact q1 h0
  ·rcases hF2.2.2.2 with⟨_,h0⟩|⟨g',k',u1,u2,_⟩
   ·exact q2 h0
   ·rw[e,u1] at w1;simp at w1;subst w1;rw[w3] at u2;cases u2
 refine⟨fun vs Hc=>∃(i:Nat)(r1:List (List Value))(G:Heap),vs=[i64 i]/\i<=n1/\r1.length=i/\(∀r∈r1,r.length=2)/\Row base Hc 24 2 a1 n1 c1 (r1++rs.drop i).flatten/\Row base Hc 95 3 a2 n2 c2 (l.ags.flatMap knCells)/\AllR RRl G r1 (l.rels.take i)/\Away H G/\Ext G Hc/\(c1≠0->∀g,a1=some ⟨g,0,none⟩->G g=none)/\(c2≠0->∀g,a2=some ⟨g,0,none⟩->G g=none),
  upTo n1 0,⟨0,[],fun _=>none,rfl,by omega,rfl,by simp,hR,hK,by simp[AllR],fun _ _ h=>(by cases h),fun _ _ h=>(by cases h),fun _ _ _=>rfl,fun _ _ _=>rfl⟩,fun m H3 hN3 hI=> ?_⟩
 obtain⟨i,r1,G,hvs,hi,hr1,hw1,hR2,hK2,hA2,haw,hsub,hcl,hcl2⟩:=hI
 obtain rfl:m=(i:Int):=by simpa using hvs
 refine⟨fun hlt=> ?_,fun hge=> ?_⟩
 ·have hri:rs[i]?=some (rs[i]'(by omega)):=List.getElem?_eq_getElem (by omega)
  have hmi:l.rels[i]?=some (l.rels[i]'(by omega)):=List.getElem?_eq_getElem (by omega)
  generalize hrr:rs[i]'(by omega)=r at hri
  generalize hmm:l.rels[i]'(by omega)=m at hmi
  obtain⟨pa,pn,pc,rfl,hp,hg⟩:=hA.get hri hmi
  have hpl:=hp.len
  have hkm:=hk m (List.mem_of_getElem? hmi)
  have hwL:∀r∈r1++rs.drop i,r.length=2:=fun r hr=>by
   rcases List.mem_append.1 hr with hr|hr
   ·exact hw1 r hr
   ·exact hw r (List.mem_of_mem_drop hr)
  have hat:(r1++rs.drop i)[i]?=some [i64 m.id,.slice pa pn pc]:=by
   rw[List.getElem?_append_right (by omega),hr1,Nat.sub_self,List.getElem?_drop,Nat.add_zero];exact hri
  obtain⟨b,hab,hcell⟩:=hR2.at hwL (by simp;omega) hat
  have hd:=drop_at hri
  refine⟨b,0,hab,by omega,hlt,_,_,_,_,⟨hcell 0 _ rfl,hcell 1 _ rfl,trivial⟩,fun b2=> ?_⟩
  refine(cCloneJ (hp.ext' hN3.ext) (by omega)).mono fun v H4 e4 hv=> ?_
  obtain⟨a6,n6,c6,rfl,hF6⟩:=hv
  refine⟨a6,n6,c6,rfl,fun hN4=> ?_⟩
  obtain⟨b3,k3,hb3,hbase,hc1,hH2,hf3,hs3,_⟩:=hR2.block (by omega)
  obtain rfl:b=b3:=by rw[hab] at hb3;simpa using hb3
  have hnc:=hR2.2.1
  refine⟨b,0,hab,by omega,hlt,k3,e4 _ _ hH2,hf3,hbase,by rw[hs3,Int.toNat_natCast];omega,fun H5 hu=> ?_⟩
  rintro r rfl
  rw[wrap_in (by omega) (by omega)]
  rw[Int.toNat_natCast] at hu
  have hR4:=(hR2.ext e4).upd hab hc1 (e4 _ _ hH2) (o:=0+i*2+1) (vs:=[.slice a6 n6 c6]) (by rw[hR2.1];show 0+i*2+1+1<=n1*2;omega) hu
  have hK4:=(hK2.ext e4).other hu (fun q e=>hapart hc1 q (by rw[hab,e]))
  rw[hd,show 0+i*2+1=r1.length*2+1 from by omega,rows_set hw1 rfl (by simp)] at hR4
  have hnew:RRl (G.plus (newOf H3 H4)) (setRange [i64 m.id,.slice pa pn pc] 1 [.slice a6 n6 c6]) m:=⟨a6,n6,c6,rfl,Sl.ext REnc.mono (hF6.sl_new pinCells_len (by omega)) (new_in_grow hsub),hg⟩
  have hGb:(G.plus (newOf H3 H4)) b=none:=by
   unfold Heap.plus newOf
   rw[hcl hc1 b hab,hH2]
  refine⟨rfl,⟨i+1,r1++[setRange [i64 m.id,.slice pa pn pc] 1 [.slice a6 n6 c6]],G.plus (newOf H3 H4),rfl,by omega,by simp[hr1],fun r hr=> ?_,by simpa using hR4,hK4,?_,?_,fun x k hx=> ?_,fun _ g hg=> ?_,fun q g hg=> ?_⟩,by simp[upTo];omega⟩
  ·rcases List.mem_append.1 hr with hr|hr
   ·exact hw1 r hr
   ·simp at hr;subst hr;rfl
  ·rw[take_at hmi]
   exact AllR.append (AllR.one hnew) (hA2.mono RRl.mono plus_left)
  ·exact plus_away haw (newOf_away.sub hN3.ext)
  ·have hne:x≠b:=fun e=>by rw[e,hGb] at hx;cases hx
   rw[hu.there x hne]
   exact plus_sub (hsub.trans e4) newOf_ext x k hx
  ·rw[hab] at hg;simp at hg;subst hg;exact hGb
  ·unfold Heap.plus newOf
   rw[hcl2 q g hg]
   rcases hK2.2.2.2 with⟨_,h0⟩|⟨g',k',u1,_,u3,_⟩
   ·exact absurd h0 q
   ·rw[hg] at u1;simp at u1;subst u1;rw[u3]
 ·obtain rfl:i=n1:=by omega
  rw[List.drop_eq_nil_of_le (by omega),List.append_nil] at hR2
  rw[List.take_of_length_le (by omega)] at hA2
  exact⟨_,_,_,_,_,_,G,r1,rfl,OwnSl.new ⟨hR2,hw1,hA2,hsub,hcl⟩ hb haw,hK2.fresh hb,hapart,hcl2⟩
theorem rels_box{H:Heap}{g:Nat}{ty:TypeId}{m:Rls}{a:O}{n c:Nat}(h:H g=some (boxKB ty [i64 m.id,.slice a n c]))(hp:Pins H a n m.lock)(hg:Rg m.id):Rels H (some ⟨g,0,none⟩) 1 [m]:=
 Sl.of_has (rows:=[[i64 m.id,.slice a n c]]) (Has.of_box h rfl (by simp) rfl (by omega)) rfl fun i r x hr hx=>by
  cases i with
  |zero=>simp at hr hx;subst hr;subst hx;exact⟨a,n,c,rfl,hp,hg⟩
  |succ i=>simp at hr
theorem kns_box{H:Heap}{g n:Nat}{ty:TypeId}(h:H g=some (boxKB ty (List.flatten (List.replicate n [i64 0,i64 0,.bool false]))))(hn:n<=100000):Kns H (some ⟨g,0,none⟩) n (List.replicate n ⟨0,0,false⟩):=by
 refine sl_of_boxE (ty:=ty) knCells_len ?_ (by simp) (by omega)
 rw[h]
 congr 2
 rw[List.flatMap_def,List.map_replicate]
 rfl
theorem rg_id{r:Rls}(h:relErr r=0):Rg r.id:=by have:=(relErr_zero h).1;unfold Rg;omega
section
variable {H : Heap} {c : Conf} {fa ra wa : O} {fl fc rl rc wl wc : Nat} {l : Ldr} {la ka : O} {ll lc kl kc : Nat}
theorem cNewL(hc:CfgAt H c fa fl ra rl wa wl):Spec Tryz.prog 86 [cfgArg c fa fl fc ra rl rc wa wl wc] H fun v H'=>∃la ll lc ka kl kc,v= .tuple #[ldrArg (if cfgErr c=0 then newLdr c else noLdr) la ll lc ka kl kc,i64 (cfgErr c)]/\LdrAt H' (if cfgErr c=0 then newLdr c else noLdr) la ll ka kl:=by
 refine TryzvcJ Tryz.func86 (by kernel_rfl) (by kernel_rfl) _ rfl (fun base K=>vc84 c.first.id c.bud fa ra wa fl fc rl rc wl wc base H K) fun base hb=> ?_
 intro b b0
 refine(cConfig hc).int1 fun H1 e1 _=>⟨fun q=> ?_,fun q=> ?_⟩
 ·rw[if_neg q];exact⟨none,0,0,none,0,0,rfl,Sl.nil,Sl.nil⟩
 have q0:cfgErr c=0:=Decidable.not_not.1 q
 rw[if_pos q0,q0]
 obtain⟨z1,z2,z3,z4,z5,z6,z7⟩:=cfgErr_zero q0
 have hag:=(agents_same z7).2
 have hfl:=hc.pins.len
 have hf12:=(relErr_zero z1).2.2
 refine(cCloneJ (hc.ext e1).pins (by omega)).mono fun v H2 e2 hv=> ?_
 obtain⟨a,n,c',rfl,hF⟩:=hv
 refine⟨a,n,c',rfl,fun hN2=> ?_⟩
 have hP:Pins H2 a n c.first.lock:=pins_of_row (hF.row hN2)
 have hc2:=(hc.ext e1).ext e2
 have fin:∀ {H':Heap} {g g1:Nat},Ext H2 H'->H' g=some (boxKB 24 [.int .i64 1,.slice a n c'])->H' g1=some (boxKB 95 (List.flatten (List.replicate (agentsOf c.waves).toNat [.int .i64 0,.int .i64 0,.bool false])))->
   ∃la ll lc ka kl kc,Value.tuple #[.agg #[.slice (some ⟨g,0,none⟩) 1 1,.int .i64 1,.int .i64 0,.bool false,.slice (some ⟨g1,0,none⟩) (agentsOf c.waves).toNat (agentsOf c.waves).toNat,.int .i64 1],.int .i64 0]= .tuple #[ldrArg (newLdr c) la ll lc ka kl kc,i64 0]/\LdrAt H' (newLdr c) la ll ka kl:=fun e hg hg1=>by
  refine⟨_,_,_,_,_,_,rfl,?_,?_⟩
  ·exact rels_box (m:=c.first) (by rw[z2];exact hg) (hP.ext' e) (rg_id z1)
  ·exact kns_box hg1 (by omega)
 intro b1
 refine⟨fun g H3 hN3 _ hg=> ?_,?_⟩
 ·refine(cAgents (hc2.ext hN3.ext)).int1 fun H4 e4 _=>⟨by omega,by omega,by omega,by omega,fun g1 H5 hN5 _ hg1=> ?_⟩
  exact fin ((Ext.trans hN3.ext e4).trans hN5.ext) (hN5.ext _ _ (e4 _ _ hg)) hg1
 ·refine(cAgents hc2).int1 fun H3 e3 _=>⟨fun g H4 hN4 _ hg=>⟨by omega,by omega,by omega,by omega,fun g1 H5 hN5 _ hg1=> ?_⟩,by omega,by omega,by omega,by omega,fun g H4 hN4 _ hg g1 H5 hN5 _ hg1=> ?_⟩
  ·exact fin ((e3.trans hN4.ext).trans hN5.ext) (hN5.ext _ _ hg) hg1
  ·exact fin ((e3.trans hN4.ext).trans hN5.ext) hg1 (hN5.ext _ _ hg)
theorem cFreshL(hc:CfgAt H c fa fl ra rl wa wl)(q0:cfgErr c=0):Spec Tryz.prog 82 [cfgArg c fa fl fc ra rl rc wa wl wc] H fun v H'=>∃la ll lc ka kl kc,v=ldrArg (newLdr c) la ll lc ka kl kc/\LdrAt H' (newLdr c) la ll ka kl:=by
 refine TryzvcJ Tryz.func82 (by kernel_rfl) (by kernel_rfl) _ rfl (fun base K=>vc93 c.first.id c.bud fa ra wa fl fc rl rc wl wc base H K) fun base hb=> ?_
 intro b b0
 obtain⟨z1,z2,z3,z4,z5,z6,z7⟩:=cfgErr_zero q0
 have hag:=(agents_same z7).2
 have hra:=(agents_same z7).1
 have fin:∀ {H':Heap} {g g1:Nat},Ext H H'->H' g=some (boxKB 24 [.int .i64 c.first.id,.slice fa fl fc])->H' g1=some (boxKB 95 (List.flatten (List.replicate (agentsOf c.waves).toNat [.int .i64 0,.int .i64 0,.bool false])))->
   ∃la ll lc ka kl kc,Value.agg #[.slice (some ⟨g,0,none⟩) 1 1,.int .i64 1,.int .i64 0,.bool false,.slice (some ⟨g1,0,none⟩) (agentsOf c.waves).toNat (agentsOf c.waves).toNat,.int .i64 1]=ldrArg (newLdr c) la ll lc ka kl kc/\LdrAt H' (newLdr c) la ll ka kl:=fun e hg hg1=>by
  refine⟨_,_,_,_,_,_,rfl,?_,?_⟩
  ·exact rels_box (m:=c.first) hg (hc.pins.ext' e) (rg_id z1)
  ·exact kns_box hg1 (by omega)
 refine⟨fun g H3 hN3 _ hg=> ?_,?_⟩
 ·refine(cRefAgents (hc.ext hN3.ext)).int1 fun H4 e4 _=> ?_
  rw[hra]
  refine⟨by omega,by omega,by omega,by omega,fun g1 H5 hN5 _ hg1=> ?_⟩
  exact fin ((Ext.trans hN3.ext e4).trans hN5.ext) (hN5.ext _ _ (e4 _ _ hg)) hg1
 ·refine(cRefAgents hc).int1 fun H3 e3 _=> ?_
  rw[hra]
  refine⟨fun g H4 hN4 _ hg=>⟨by omega,by omega,by omega,by omega,fun g1 H5 hN5 _ hg1=> ?_⟩,by omega,by omega,by omega,by omega,fun g H4 hN4 _ hg g1 H5 hN5 _ hg1=> ?_⟩
  ·exact fin ((e3.trans hN4.ext).trans hN5.ext) (hN5.ext _ _ hg) hg1
  ·exact fin ((e3.trans hN4.ext).trans hN5.ext) hg1 (hN5.ext _ _ hg)
def turnErr(c:Conf)(l:Ldr)(k:Int):Int:=if ldrErr c l≠0 then ldrErr c l else if k<0∨(l.ags.length:Int)<=k then 5 else if l.goal=0 then 7 else 0
def turnRel(c:Conf)(l:Ldr)(k:Int):Rls:=if turnErr c l k=0 then(l.rels[(goalOf l-1).toNat]?).getD ⟨0,[]⟩ else⟨0,[]⟩
def turnT(c:Conf)(l:Ldr)(k:Int):Bool:=if turnErr c l k=0 then turnOf c l k else false
theorem ags_six(hE:ldrErr c l=0):l.ags.length<=6/\(l.ags.length:Int)=agentsOf c.waves:=by
 obtain⟨g1,g2,g3,g4,g5,g6,g7⟩:=ldrErr_zero.1 hE
 have hag:(l.ags.length:Int)=agentsOf c.waves:=by
  by_cases q:(l.ags.length:Int)=agentsOf c.waves
  ·exact q
  ·exact absurd (.inr (.inr (.inl q))) g6
 have:=(agents_same (cfgErr_zero g1).2.2.2.2.2.2).2
 exact⟨by omega,hag⟩
theorem cTurnL(hc:CfgAt H c fa fl ra rl wa wl)(h:LdrAt H l la ll ka kl)(k:Int):Spec Tryz.prog 220 [cfgArg c fa fl fc ra rl rc wa wl wc,ldrArg l la ll lc ka kl kc,i64 k] H fun v H'=>∃a n c',v= .tuple #[.bool (turnT c l k),.agg #[.int .i64 (turnRel c l k).id,.slice a n c'],i64 (turnErr c l k)]/\Pins H' a n (turnRel c l k).lock:=by
 refine TryzvcJ Tryz.func220 (by kernel_rfl) (by kernel_rfl) _ rfl (fun base K=>vc80 c.first.id c.bud fa ra wa fl fc rl rc wl wc la ka ll lc kl kc l.now l.goal l.nx l.back k base H K) fun base hb=> ?_
 have bad:∀ {e:Int} {H':Heap},turnErr c l k=e->e≠0->∃a n c',Value.tuple #[.bool false,.agg #[.int .i64 0,.slice none 0 0],.int .i64 e]= .tuple #[.bool (turnT c l k),.agg #[.int .i64 (turnRel c l k).id,.slice a n c'],i64 (turnErr c l k)]/\Pins H' a n (turnRel c l k).lock:=fun he h0=>by
  have e1:turnT c l k=false:=by rw[turnT,if_neg (by omega)]
  have e2:turnRel c l k=⟨0,[]⟩:=by rw[turnRel,if_neg (by omega)]
  rw[e1,e2,he]
  exact⟨none,0,0,rfl,Sl.nil⟩
 intro b b1 b2
 have hkl:=h.ags.len
 have hll:=h.rels.len
 refine(cLdrCheck hc h).int1 fun H1 e1 _=>⟨fun q=>bad (by rw[turnErr,if_pos q]) q,fun q=> ?_⟩
 have q0:ldrErr c l=0:=Decidable.not_not.1 q
 obtain⟨g1,g2,g3,g4,g5,g6,g7⟩:=ldrErr_zero.1 q0
 unfold ldrRange at g5
 have h6:=ags_six q0
 refine⟨k<0∨(l.ags.length:Int)<=k,⟨fun w=>⟨rfl,fun _ _ h=>h,.inl w⟩,fun w=>⟨rfl,fun _ _ h=>h,by omega⟩⟩,fun w=>bad (by rw[turnErr,if_neg q,if_pos w]) (by omega),fun w=>⟨fun w2=>bad (by rw[turnErr,if_neg q,if_neg w,if_pos w2]) (by omega),fun w2=> ?_⟩⟩
 have hT0:turnErr c l k=0:=by rw[turnErr,if_neg q,if_neg w,if_neg w2]
 have hT1:turnT c l k=turnOf c l k:=by rw[turnT,if_pos hT0]
 have hlk:=rel_lock g4
 refine⟨fun hk=> ?_,fun hk=> ?_⟩
 all_goals
  rintro _ rfl
  rw[wrap_in (by omega) (by omega)]
  refine h.rels.rl e1 (by omega) (by omega) fun m ma mn mc hm hp=>fun b5=> ?_
  have hgo:l.rels[(goalOf l-1).toNat]?=some m:=by unfold goalOf;simp only[hk];simpa using hm
  have hT2:turnRel c l k=m:=by rw[turnRel,if_pos hT0,hgo];rfl
  have hml:=hlk m (List.mem_of_getElem? hm)
  have hpl:=hp.len
  refine(cTurn (hc.ext e1) (h.ext e1) h6.1 (k:=k) (by omega) (by omega)).bool1 fun H2 e2 _=>(cCloneJ (hp.ext' (e1.trans e2)) (by omega)).slF fun a5 n5 c5 H3 e3 hN3 hF=> ?_
  rw[hT0,hT1,hT2]
  exact⟨_,_,_,rfl,pins_of_row hF⟩
end
open Go Go.Proofs
open Go.Value renaming int → I, slice → S, bool → B, agg → A, tuple → T, pointer → P, string → Str
open Go.IntKind renaming i64 → Z, wrap → W
open Go.Addr renaming mk → D
open Go.Vg.Bx renaming mk → J
open Go.Vg renaming Next → X, Spec → Y, SpecO → YO
open Go.Vg.Heap renaming cell → C
open Int renaming toNat → N
theorem vc89(fid bud:Int)(fa ra wa:O)(fl fc rl rc wl wc:Nat)(a:O)(l c:Nat)(base:Nat)(H:Heap)(K:KT):
 (fV TryzMutsJ Tryz.f66 base H [.v (A #[I Z fid,S fa fl fc,S ra rl rc,S wa wl wc,I Z bud]),.v (S a l c)] [] K)=(
 (fun w7:LL=>(fun w6:AV=>∀b d:Nat,Y Tryz.prog 86 [A #[I Z fid,S fa fl fc,S ra rl rc,S wa wl wc,I Z bud]] H fun e g=>∃h i j k m n o p q r s,e=T #[A #[S h i j,I Z k,I Z m,B n,S o p q,I Z r],I Z s]/\(X base H g->∀t:Nat,(¬s=0->K (T #[A w6,I Z s]) [] g)/\(¬¬s=0->(200<(l:Int)->K (T #[A w6,I Z 2]) [] g)/\(¬200<(l:Int)->∃(u:LI)(v:LM),u [I Z 0,I Z s,I Z 0,A w6,A #[S h i j,I Z k,I Z m,B n,S o p q,I Z r]] g/\∀(w x y:Int)(z:O)(a1 b1:Nat)(c1 d1:Int)(e1:Bool)(f1:O)(g1 h1:Nat)(i1:Int)(j1:O)(k1 l1:Nat)(m1 n1:Int)(o1:Bool)(p1:O)(q1 r1:Nat)(s1:Int)(t1:Heap),(fun w5:AV=>(fun w4:AV=>X base H t1->u [I Z w,I Z x,I Z y,A w5,A w4] t1->(y<(l:Int)->∃u1 v1,a=some (D u1 v1 none)/\0<=y/\y<(l:Int)/\∃(w1 x1 y1 z1:Int)(a2:Bool)(b2:Int)(c2:O)(d2 e2:Nat),(C t1 u1 (v1+N y*7)=some (I Z w1)/\C t1 u1 (v1+N y*7+1)=some (I Z x1)/\C t1 u1 (v1+N y*7+2)=some (I Z y1)/\C t1 u1 (v1+N y*7+3)=some (I Z z1)/\C t1 u1 (v1+N y*7+4)=some (B a2)/\C t1 u1 (v1+N y*7+5)=some (I Z b2)/\C t1 u1 (v1+N y*7+6)=some (S c2 d2 e2)/\True)/\∀f2:Nat,Y Tryz.prog 144 [A #[I Z fid,S fa fl fc,S ra rl rc,S wa wl wc,I Z bud],A w4,A #[I Z w1,I Z x1,I Z y1,I Z z1,B a2,I Z b2,S c2 d2 e2]] t1 fun g2 h2=>∃(i2:O)(j2 k2:Nat)(l2 m2:Int)(n2:Bool)(o2:O)(p2 q2:Nat)(r2:Int),(fun w3:AV=>∃s2,g2=T #[A w3,I Z s2]/\(X base t1 h2->(¬s2=0->K (T #[A w6,I Z s2]) [] h2)/\(¬¬s2=0->∀t2:Int,(fun w2:LV=>t2=W Z (y+1)->w7=w7/\u w2 h2/\v w2<v [I Z w,I Z x,I Z y,A w5,A w4]) [I Z w,I Z s2,I Z t2,A w5,A w3]))) #[S i2 j2 k2,I Z l2,I Z m2,B n2,S o2 p2 q2,I Z r2])/\(¬y<(l:Int)->K (T #[A w4,I Z 0]) [] t1)) #[S j1 k1 l1,I Z m1,I Z n1,B o1,S p1 q1 r1,I Z s1]) #[S z a1 b1,I Z c1,I Z d1,B e1,S f1 g1 h1,I Z i1])))) #[S none 0 0,I Z 0,I Z 0,B false,S none 0 0,I Z 0]) [[I Z fid,S fa fl fc,S ra rl rc,S wa wl wc,I Z bud]]):=by kernel_rfl
theorem vc90(fid bud:Int)(fa ra wa:O)(fl fc rl rc wl wc:Nat)(a:O)(l c:Nat)(base:Nat)(H:Heap)(K:KT):
 (fV TryzMutsJ Tryz.f24 base H [.v (A #[I Z fid,S fa fl fc,S ra rl rc,S wa wl wc,I Z bud]),.v (S a l c)] [] K)=(
 (fun w8:LL=>(fun w7:LV=>(fun w6:AV=>∀b d:Nat,Y Tryz.prog 28 w7 H fun e g=>∃h,e=I Z h/\(X base H g->(¬h=0->K (T #[A w6,I Z h]) [] g)/\(¬¬h=0->(200<(l:Int)->K (T #[A w6,I Z 2]) [] g)/\(¬200<(l:Int)->Y Tryz.prog 82 w7 g fun i j=>∃k m n o p q r s t u,i=A #[S k m n,I Z o,I Z p,B q,S r s t,I Z u]/\(X base g j->∀v:Nat,∃(w:LI)(x:LM),w [I Z 0,I Z 0,A w6,A #[S k m n,I Z o,I Z p,B q,S r s t,I Z u]] j/\∀(y z:Int)(a1:O)(b1 c1:Nat)(d1 e1:Int)(f1:Bool)(g1:O)(h1 i1:Nat)(j1:Int)(k1:O)(l1 m1:Nat)(n1 o1:Int)(p1:Bool)(q1:O)(r1 s1:Nat)(t1:Int)(u1:Heap),(fun w5:AV=>(fun w4:AV=>X base H u1->w [I Z y,I Z z,A w5,A w4] u1->(z<(l:Int)->∃v1 w1,a=some (D v1 w1 none)/\0<=z/\z<(l:Int)/\∃(x1 y1 z1 a2:Int)(b2:Bool)(c2:Int)(d2:O)(e2 f2:Nat),(C u1 v1 (w1+N z*7)=some (I Z x1)/\C u1 v1 (w1+N z*7+1)=some (I Z y1)/\C u1 v1 (w1+N z*7+2)=some (I Z z1)/\C u1 v1 (w1+N z*7+3)=some (I Z a2)/\C u1 v1 (w1+N z*7+4)=some (B b2)/\C u1 v1 (w1+N z*7+5)=some (I Z c2)/\C u1 v1 (w1+N z*7+6)=some (S d2 e2 f2)/\True)/\∀g2:Nat,Y Tryz.prog 83 [A #[I Z fid,S fa fl fc,S ra rl rc,S wa wl wc,I Z bud],A w4,A #[I Z x1,I Z y1,I Z z1,I Z a2,B b2,I Z c2,S d2 e2 f2]] u1 fun h2 i2=>∃(j2:O)(k2 l2:Nat)(m2 n2:Int)(o2:Bool)(p2:O)(q2 r2:Nat)(s2:Int),(fun w3:AV=>∃t2,h2=T #[A w3,I Z t2]/\(X base u1 i2->∀u2:Nat,(¬t2=0->K (T #[A w6,I Z t2]) [] i2)/\(¬¬t2=0->∀v2:Int,(fun w2:LV=>v2=W Z (z+1)->w8=w8/\w w2 i2/\x w2<x [I Z y,I Z z,A w5,A w4]) [I Z y,I Z v2,A w5,A w3]))) #[S j2 k2 l2,I Z m2,I Z n2,B o2,S p2 q2 r2,I Z s2])/\(¬z<(l:Int)->K (T #[A w4,I Z 0]) [] u1)) #[S k1 l1 m1,I Z n1,I Z o1,B p1,S q1 r1 s1,I Z t1]) #[S a1 b1 c1,I Z d1,I Z e1,B f1,S g1 h1 i1,I Z j1]))))) #[S none 0 0,I Z 0,I Z 0,B false,S none 0 0,I Z 0]) [A #[I Z fid,S fa fl fc,S ra rl rc,S wa wl wc,I Z bud]]) [[I Z fid,S fa fl fc,S ra rl rc,S wa wl wc,I Z bud]]):=by kernel_rfl
theorem vc128(base:Nat)(H:Heap)(K:KT):
 (fV TryzMutsJ Tryz.f71 base H [] [] K)=(
 ∀(a b:Nat)(c:Heap),X base H c->H b=none->c b=some (boxKB 91 [I Z 1,I Z 1])->∀(d:Nat)(e:Heap),X base c e->c d=none->e d=some (boxKB 152 [I Z 1,I Z 2,I Z 2,I Z 1])->∀(g:Nat)(h:Heap),X base e h->e g=none->h g=some (boxKB 3 [I Z 1])->∀(i:Nat)(j:Heap),X base h j->h i=none->j i=some (boxKB 3 [I Z 0,I Z 2])->∀(k:Nat)(l:Heap),X base j l->j k=none->l k=some (boxKB 97 [S (some (D g 0 none)) 1 1,S (some (D i 0 none)) 2 2])->K (A #[I Z 1,S (some (D b 0 none)) 1 1,S (some (D d 0 none)) 1 1,S (some (D k 0 none)) 2 2,I Z 0]) [] l):=by kernel_rfl
open Go Go.Proofs
theorem vc79(fid bud:Int)(fa ra wa:O)(fl fc rl rc wl wc:Nat)(la ka:O)(ll lc kl kc:Nat)(now goal nx:Int)(back:Bool)(kd ag tr n id:Int)(gd:Bool)(qa:O)(ql qc:Nat)(base:Nat)(H:Heap)(K:KT):
 (fV TryzMutsJ Tryz.f144 base H [.v (A #[I Z fid,S fa fl fc,S ra rl rc,S wa wl wc,I Z bud]),.v (A #[S la ll lc,I Z now,I Z goal,B back,S ka kl kc,I Z nx]),.v (A #[I Z kd,I Z ag,I Z tr,I Z n,B gd,I Z id,S qa ql qc])] [] K)=(
 (fun w10:AV=>(fun w9:AV=>(fun w8:AV=>(fun w7:AV=>∀a b c d:Nat,Y Tryz.prog 197 [A #[I Z fid,S fa fl fc,S ra rl rc,S wa wl wc,I Z bud],A w10] H fun e g=>∃h,e=I Z h/\(X base H g->(¬h=0->K (T #[A #[S none 0 0,I Z 0,I Z 0,B false,S none 0 0,I Z 0],I Z h]) [] g)/\(¬¬h=0->Y Tryz.prog 198 [A #[I Z kd,I Z ag,I Z tr,I Z n,B gd,I Z id,S qa ql qc]] g fun i j=>∃k,(fun w6:AV=>i=I Z k/\(X base g j->Y Tryz.prog 170 [A w10] j fun l m=>∃o p q r s t u v w x,(fun w5:AV=>(fun w4:LL=>(fun w3:LL=>(fun w2:AV=>(fun w1:LB=>l=A #[S o p q,I Z r,I Z s,B t,S u v w,I Z x]/\(X base j m->(¬k=0->(¬k=0->K (T w6) [] m)/\(¬¬k=0->K (T w2) [] m))/\(¬¬k=0->(kd=4->∀y z:Nat,((p:Int)=6->(¬Int.ofNat 2=0->K (T #[A #[S none 0 0,I Z 0,I Z 0,B false,S none 0 0,I Z 0],I Z 2]) [] m)/\(¬¬Int.ofNat 2=0->K (T w2) [] m))/\(¬(p:Int)=6->∀a1:Int,a1=W Z ((p:Int)+1)->(¬id=a1->(¬Int.ofNat 7=0->K (T w7) [] m)/\(¬¬Int.ofNat 7=0->K (T w2) [] m))/\(¬¬id=a1->Y Tryz.prog 186 [S qa ql qc,S ra rl rc] m fun b1 c1=>∃d1 e1,b1=T #[I Z d1,I Z e1]/\(X base m c1->(¬e1=0->(¬e1=0->K (T #[A #[S none 0 0,I Z 0,I Z 0,B false,S none 0 0,I Z 0],I Z e1]) [] c1)/\(¬¬e1=0->K (T w2) [] c1))/\(¬¬e1=0->(0<=d1->(¬Int.ofNat 8=0->K (T #[A #[S none 0 0,I Z 0,I Z 0,B false,S none 0 0,I Z 0],I Z 8]) [] c1)/\(¬¬Int.ofNat 8=0->K (T w2) [] c1))/\(¬0<=d1->Y Tryz.prog 163 [S qa ql qc] c1 fun f1 g1=>∃h1 i1 j1,f1=S h1 i1 j1/\(X base c1 g1->∀(k1:Nat)(l1:Heap),X base g1 l1->g1 k1=none->l1 k1=some (boxKB 24 [I Z id,S h1 i1 j1])->∃m1 n1:List Value,Row base l1 24 2 o p q m1/\List.length n1=1*2/\allOne n1=true/\(1=0∨∃o1 p1,some (D k1 0 none)=some (D o1 p1 none)/\cellsAt l1 o1 p1 0 n1)/\(p+1)*32<=140737488355328/\p+1<=9223372036854775807/\∀(o1:O)(p1:Nat)(q1:Heap),Grew base l1 q1 o q o1 p1 (p+1)->Row base q1 24 2 o1 (p+1) p1 (m1++n1)->(¬Int.ofNat 0=0->K (T w8) [] q1)/\(¬¬Int.ofNat 0=0->K (T #[A #[S o1 (p+1) p1,I Z r,I Z s,B t,S u v w,I Z x],I Z 0]) [] q1))))))))/\(¬kd=4->(kd=5->(¬s=0->(¬Int.ofNat 7=0->K (T w7) []
 m)/\(¬¬Int.ofNat 7=0->K (T w2) [] m))/\(¬¬s=0->((p:Int)<n->(¬Int.ofNat 5=0->K (T w9) [] m)/\(¬¬Int.ofNat 5=0->K (T w2) [] m))/\(¬(p:Int)<n->(n=r->(¬Int.ofNat 6=0->K (T #[A #[S none 0 0,I Z 0,I Z 0,B false,S none 0 0,I Z 0],I Z 6]) [] m)/\(¬¬Int.ofNat 6=0->K (T w2) [] m))/\(¬n=r->(¬Int.ofNat 0=0->K (T w8) [] m)/\(¬¬Int.ofNat 0=0->K (T #[A #[S o p q,I Z r,I Z n,B t,S u v w,I Z x],I Z 0]) [] m)))))/\(¬kd=5->∃y:Prop,((kd=6->w1=w1/\SubH m m/\y)/\(¬kd=6->w1=w1/\SubH m m/\(y↔kd=7)))/\(y->∀z a1:Nat,((v:Int)<=ag->(¬Int.ofNat 5=0->K (T w9) [] m)/\(¬¬Int.ofNat 5=0->K (T w2) [] m))/\(¬(v:Int)<=ag->∃b1 c1,u=some (D b1 c1 none)/\0<=ag/\ag<(v:Int)/\(kd=7->∃d1,C m b1 (c1+N ag*3)=some (I Z d1)/\(¬d1=1->(¬Int.ofNat 7=0->K (T w7) [] m)/\(¬¬Int.ofNat 7=0->K (T w2) [] m))/\(¬¬d1=1->∃e1,C m b1 (c1+N ag*3+1)=some (I Z e1)/\(¬tr=e1->(¬Int.ofNat 7=0->K (T w7) [] m)/\(¬¬Int.ofNat 7=0->K (T w2) [] m))/\(¬¬tr=e1->∃f1:KB,m b1=some f1/\KB.free f1=true/\base<=b1/\c1+N ag*3+1<=KB.size f1/\∀g1:Heap,Upd m b1 (c1+N ag*3) f1 [I Z 3] g1->(gd=true->∃h1:KB,g1 b1=some h1/\KB.free h1=true/\base<=b1/\c1+N ag*3+1<=KB.size h1/\∀i1:Heap,Upd g1 b1 (c1+N ag*3) h1 [I Z 2] i1->(¬Int.ofNat 0=0->K (T w8) [] i1)/\(¬¬Int.ofNat 0=0->K (T w2) [] i1))/\(gd=false->(¬Int.ofNat 0=0->K (T w8) [] g1)/\(¬¬Int.ofNat 0=0->K (T w2) [] g1)))))/\(¬kd=7->(s=0->(¬Int.ofNat 7=0->K (T w7) [] m)/\(¬¬Int.ofNat 7=0->K (T w2) [] m))/\(¬s=0->(¬tr=x->(¬Int.ofNat 7=0->K (T w7) [] m)/\(¬¬Int.ofNat 7=0->K (T w2) [] m))/\(¬¬tr=x->Y Tryz.prog 231 [A #[I Z fid,S fa fl fc,S ra rl rc,S wa wl wc,I Z bud],A #[S o p q,I Z r,I Z s,B t,S u v w,I Z x],I Z ag] m fun d1 e1=>∃f1,d1=B f1/\(X base m e1->(f1=false->(¬Int.ofNat 7=0->K (T w7) [] e1)/\(¬¬Int.ofNat 7=0->K (T w2) [] e1))/\(¬f1=false->∃g1:KB,e1 b1=some g1/\KB.free g1=true/\base<=b1/\c1+N ag*3+3<=KB.size g1/\∀h1:Heap,Upd e1 b1 (c1+N ag*3) g1 [I Z 1,I Z tr,B t] h1->∀i1:Int,i1=W Z (x+1)->(¬Int.ofNat 0=0->K (T w8) []
 h1)/\(¬¬Int.ofNat 0=0->K (T #[A #[S o p q,I Z r,I Z s,B t,S u v w,I Z i1],I Z 0]) [] h1))))))))/\(¬y->(kd=8->∃z:Prop,((s=0->w1=w1/\SubH m m/\z)/\(¬s=0->w1=w1/\SubH m m/\(z↔t=true)))/\(z->(¬Int.ofNat 7=0->K (T w7) [] m)/\(¬¬Int.ofNat 7=0->K (T w5) [] m))/\(¬z->(¬k=0->K (T w6) [] m)/\(¬¬k=0->K (T w5) [] m)))/\(¬kd=8->(kd=9->∀z:Nat,(s=0->(¬Int.ofNat 7=0->K (T w7) [] m)/\(¬¬Int.ofNat 7=0->K (T w2) [] m))/\(¬s=0->Y Tryz.prog 232 [A #[I Z fid,S fa fl fc,S ra rl rc,S wa wl wc,I Z bud],A #[S o p q,I Z r,I Z s,B t,S u v w,I Z x]] m fun a1 b1=>∃c1,a1=B c1/\(X base m b1->(c1=false->(¬Int.ofNat 7=0->K (T w7) [] b1)/\(¬¬Int.ofNat 7=0->K (T w2) [] b1))/\(¬c1=false->(t=false->∃(d1:LI)(e1:LM),d1 [I Z 0] b1/\∀(f1:Int)(g1:Heap),X base H g1->d1 [I Z f1] g1->(f1<(v:Int)->∃h1 i1,u=some (D h1 i1 none)/\0<=f1/\f1<(v:Int)/\∃(j1 k1:Int)(l1:Bool),(C g1 h1 (i1+N f1*3)=some (I Z j1)/\C g1 h1 (i1+N f1*3+1)=some (I Z k1)/\C g1 h1 (i1+N f1*3+2)=some (B l1)/\True)/\∀m1:Nat,∃n1 o1,u=some (D n1 o1 none)/\0<=f1/\f1<(v:Int)/\∃p1:KB,g1 n1=some p1/\KB.free p1=true/\base<=n1/\o1+N f1*3+3<=KB.size p1/\∀q1:Heap,Upd g1 n1 (o1+N f1*3) p1 [I Z 0,I Z k1,B false] q1->∀r1:Int,r1=W Z (f1+1)->w3=w3/\d1 [I Z r1] q1/\e1 [I Z r1]<e1 [I Z f1])/\(¬f1<(v:Int)->(¬Int.ofNat 0=0->K (T w8) [] g1)/\(¬¬Int.ofNat 0=0->K (T #[A #[S o p q,I Z s,I Z 0,B false,S u v w,I Z x],I Z 0]) [] g1)))/\(¬t=false->∃(d1:LI)(e1:LM),d1 [I Z 0] b1/\∀(f1:Int)(g1:Heap),X base H g1->d1 [I Z f1] g1->(f1<(v:Int)->∃h1 i1,u=some (D h1 i1 none)/\0<=f1/\f1<(v:Int)/\∃(j1 k1:Int)(l1:Bool),(C g1 h1 (i1+N f1*3)=some (I Z j1)/\C g1 h1 (i1+N f1*3+1)=some (I Z k1)/\C g1 h1 (i1+N f1*3+2)=some (B l1)/\True)/\∀m1:Nat,∃n1 o1,u=some (D n1 o1 none)/\0<=f1/\f1<(v:Int)/\∃p1:KB,g1 n1=some p1/\KB.free p1=true/\base<=n1/\o1+N f1*3+3<=KB.size p1/\∀q1:Heap,Upd g1 n1 (o1+N f1*3) p1 [I Z 0,I Z k1,B false] q1->∀r1:Int,r1=W Z (f1+1)->w4=w4/\d1 [I Z r1] q1/\e1 [I Z r1]<e1 [I
 Z f1])/\(¬f1<(v:Int)->(¬Int.ofNat 0=0->K (T w8) [] g1)/\(¬¬Int.ofNat 0=0->K (T #[A #[S o p q,I Z r,I Z 0,B false,S u v w,I Z x],I Z 0]) [] g1)))))))/\(¬kd=9->(¬Int.ofNat 4=0->K (T #[A #[S none 0 0,I Z 0,I Z 0,B false,S none 0 0,I Z 0],I Z 4]) [] m)/\(¬¬Int.ofNat 4=0->K (T w2) [] m))))))))) [J a false 28 [I Z fid,S fa fl fc,S ra rl rc,S wa wl wc,I Z bud],J b false 32 [S o p q,I Z r,I Z s,B t,S u v w,I Z x],J c false 126 [I Z kd,I Z ag,I Z tr,I Z n,B gd,I Z id,S qa ql qc],J d false 32 [S none 0 0,I Z 0,I Z 0,B false,S none 0 0,I Z 0]]) #[A #[S o p q,I Z r,I Z s,B t,S u v w,I Z x],I Z 0]) [[I Z fid,S fa fl fc,S ra rl rc,S wa wl wc,I Z bud],[S o p q,I Z s,I Z 0,B false,S u v w,I Z x],[I Z kd,I Z ag,I Z tr,I Z n,B gd,I Z id,S qa ql qc],[S none 0 0,I Z 0,I Z 0,B false,S none 0 0,I Z 0],[I Z fid,S fa fl fc,S ra rl rc,S wa wl wc,I Z bud]]) [[I Z fid,S fa fl fc,S ra rl rc,S wa wl wc,I Z bud],[S o p q,I Z r,I Z 0,B false,S u v w,I Z x],[I Z kd,I Z ag,I Z tr,I Z n,B gd,I Z id,S qa ql qc],[S none 0 0,I Z 0,I Z 0,B false,S none 0 0,I Z 0],[I Z fid,S fa fl fc,S ra rl rc,S wa wl wc,I Z bud]]) #[A #[S o p q,I Z r,I Z s,B true,S u v w,I Z x],I Z 0])) #[A #[S none 0 0,I Z 0,I Z 0,B false,S none 0 0,I Z 0],I Z k]))) #[A #[S none 0 0,I Z 0,I Z 0,B false,S none 0 0,I Z 0],I Z 7]) #[A #[S none 0 0,I Z 0,I Z 0,B false,S none 0 0,I Z 0],I Z 0]) #[A #[S none 0 0,I Z 0,I Z 0,B false,S none 0 0,I Z 0],I Z 5]) #[S la ll lc,I Z now,I Z goal,B back,S ka kl kc,I Z nx]):=by kernel_rfl
open Go Go.Proofs
abbrev vt87_4(fid bud:Int)(fa ra wa:O)(fl fc rl rc wl wc:Nat)(la ka:O)(ll lc kl kc:Nat)(now goal nx:Int)(back:Bool)(kd ag tr n id:Int)(gd:Bool)(qa:O)(ql qc:Nat)(base:Nat)(H:Heap)(K:KT)(a'_1:O)(H'_3:Heap)(b:Nat)(b_1:Nat)(a':O)(c':Nat)(c'_1:Nat)(b_2:Nat)(b_3:Nat):Prop:=
 ¬(↑(0+kl):Int)<=ag->∃a c,a'_1=some (D a c none)/\0<=ag/\ag<(↑(0+kl):Int)/\∃(d e:Int)(g:Bool),(C H'_3 a (c+N ag*3)=some (I Z d)/\C H'_3 a (c+N ag*3+1)=some (I Z e)/\C H'_3 a (c+N ag*3+2)=some (B g)/\True)/\∀h:Nat,(fun w3:LB=>(kd=6->∃i:Prop,((goal=0->w3=w3/\SubH H'_3 H'_3/\i)/\(¬goal=0->(¬tr=nx->w3=w3/\SubH H'_3 H'_3/\i)/\(¬¬tr=nx->Y Tryz.prog 157 [A #[I Z fid,S fa fl fc,S ra rl rc,S wa wl wc,I Z bud],A #[S a' (0+ll) c',I Z now,I Z goal,B back,S a'_1 (0+kl) c'_1,I Z nx],I Z ag] H'_3 fun j k=>∃l,j=B l/\(X base H'_3 k->w3=w3/\SubH H'_3 k/\(i↔l=false)))))/\(i->Y Tryz.prog 154 [I Z 7] H'_3 fun j k=>∃(l:O)(m o:Nat)(p q:Int)(r:Bool)(s:O)(t u:Nat)(v w:Int),(fun w1:AV=>j=T w1/\(X base H'_3 k->K (T w1) [] k)) #[A #[S l m o,I Z p,I Z q,B r,S s t u,I Z v],I Z w])/\(¬i->∀j:Int,j=W Z (nx+1)->∃k l,a'_1=some (D k l none)/\0<=ag/\ag<(↑(0+kl):Int)/\∃m:KB,H'_3 k=some m/\KB.free m=true/\base<=k/\l+N ag*3+3<=KB.size m/\∀o:Heap,Upd H'_3 k (l+N ag*3) m [I Z 1,I Z nx,B back] o->K (T #[A #[S a' (0+ll) c',I Z now,I Z goal,B back,S a'_1 (0+kl) c'_1,I Z j],I Z 0]) [] o))/\(¬kd=6->∃i:Prop,((¬d=1->w3=w3/\SubH H'_3 H'_3/\i)/\(¬¬d=1->w3=w3/\SubH H'_3 H'_3/\(i↔¬e=tr)))/\(i->Y Tryz.prog 154 [I Z 7] H'_3 fun j k=>∃(l:O)(m o:Nat)(p q:Int)(r:Bool)(s:O)(t u:Nat)(v w:Int),(fun w2:AV=>j=T w2/\(X base H'_3 k->K (T w2) [] k)) #[A #[S l m o,I Z p,I Z q,B r,S s t u,I Z v],I Z w])/\(¬i->∀j:Nat,∃k:List Value,mapSet (B true) (I Z 2) []=some k/\∃l:List Value,mapSet (B false) (I Z 3) k=some l/\∃(m:Int)(o:Bool),mapGet (I Z 0) (B gd) l=some (I Z m,o)/\∃p q,a'_1=some (D p q none)/\0<=ag/\ag<(↑(0+kl):Int)/\∃r:KB,H'_3 p=some r/\KB.free r=true/\base<=p/\q+N ag*3+3<=KB.size r/\∀s:Heap,Upd H'_3 p (q+N ag*3) r [I Z m,I Z e,B g] s->K (T #[A #[S a' (0+ll) c',I Z now,I Z goal,B back,S a'_1 (0+kl) c'_1,I Z nx],I Z 0]) [] s))) [J b false 28 [I Z fid,S fa fl fc,S ra rl rc,S wa wl wc,I Z bud],J b_1 false 32 [S a' (0+
 ll) c',I Z now,I Z goal,B back,S a'_1 (0+kl) c'_1,I Z nx],J b_2 false 126 [I Z kd,I Z ag,I Z tr,I Z n,B gd,I Z id,S qa ql qc],J b_3 false 32 [S none 0 0,I Z 0,I Z 0,B false,S none 0 0,I Z 0],J h false 95 [I Z d,I Z e,B g]]
abbrev vt87_5(fid bud:Int)(fa ra wa:O)(fl fc rl rc wl wc:Nat)(la ka:O)(ll lc kl kc:Nat)(now goal nx:Int)(back:Bool)(kd ag tr n id:Int)(gd:Bool)(qa:O)(ql qc:Nat)(base:Nat)(H:Heap)(K:KT)(b:Nat)(b_1:Nat)(a':O)(c':Nat)(a'_1:O)(c'_1:Nat)(b_2:Nat)(b_3:Nat)(H'_3:Heap):Prop:=
 (fun w2:LB=>kd=8->∃a:Prop,((back=true->w2=w2/\SubH H'_3 H'_3/\a)/\(back=false->w2=w2/\SubH H'_3 H'_3/\(a↔goal=0)))/\(a->Y Tryz.prog 154 [I Z 7] H'_3 fun c d=>∃(e:O)(g h:Nat)(i j:Int)(k:Bool)(l:O)(m o:Nat)(p q:Int),(fun w1:AV=>c=T w1/\(X base H'_3 d->K (T w1) [] d)) #[A #[S e g h,I Z i,I Z j,B k,S l m o,I Z p],I Z q])/\(¬a->K (T #[A #[S a' (0+ll) c',I Z now,I Z goal,B true,S a'_1 (0+kl) c'_1,I Z nx],I Z 0]) [] H'_3)) [J b false 28 [I Z fid,S fa fl fc,S ra rl rc,S wa wl wc,I Z bud],J b_1 false 32 [S a' (0+ll) c',I Z now,I Z goal,B back,S a'_1 (0+kl) c'_1,I Z nx],J b_2 false 126 [I Z kd,I Z ag,I Z tr,I Z n,B gd,I Z id,S qa ql qc],J b_3 false 32 [S none 0 0,I Z 0,I Z 0,B false,S none 0 0,I Z 0]]
abbrev vt87_3(fid bud:Int)(fa ra wa:O)(fl fc rl rc wl wc:Nat)(la ka:O)(ll lc kl kc:Nat)(now goal nx:Int)(back:Bool)(kd ag tr n id:Int)(gd:Bool)(qa:O)(ql qc:Nat)(base:Nat)(H:Heap)(K:KT)(b:Nat)(b_1:Nat)(a':O)(c':Nat)(a'_1:O)(c'_1:Nat)(b_2:Nat)(b_3:Nat)(H'_3:Heap):Prop:=
 (fun w7:LV=>(fun w6:LV=>(fun w5:LL=>(fun w4:LL=>(fun w3:LB=>¬kd=8->(kd=9->∃a:Prop,((goal=0->w3=w3/\SubH H'_3 H'_3/\a)/\(¬goal=0->Y Tryz.prog 158 [A #[I Z fid,S fa fl fc,S ra rl rc,S wa wl wc,I Z bud],A #[S a' (0+ll) c',I Z now,I Z goal,B back,S a'_1 (0+kl) c'_1,I Z nx]] H'_3 fun c d=>∃e,c=B e/\(X base H'_3 d->w3=w3/\SubH H'_3 d/\(a↔e=false))))/\(a->Y Tryz.prog 154 [I Z 7] H'_3 fun c d=>∃(e:O)(g h:Nat)(i j:Int)(k:Bool)(l:O)(m o:Nat)(p q:Int),(fun w1:AV=>c=T w1/\(X base H'_3 d->K (T w1) [] d)) #[A #[S e g h,I Z i,I Z j,B k,S l m o,I Z p],I Z q])/\(¬a->(back=false->∃(c:LI)(d:LM),c [I Z 0] H'_3/\∀(e:Int)(g:Heap),X base H g->c [I Z e] g->(e<(↑(0+kl):Int)->∃h i,a'_1=some (D h i none)/\0<=e/\e<(↑(0+kl):Int)/\(∃j:KB,g h=some j/\KB.free j=true/\base<=h/\i+N e*3+1<=KB.size j/\∀k:Heap,Upd g h (i+N e*3) j [I Z 0] k->∃l m,a'_1=some (D l m none)/\0<=e/\e<(↑(0+kl):Int)/\∃o:KB,k l=some o/\KB.free o=true/\base<=l/\m+N e*3+2+1<=KB.size o/\∀p:Heap,Upd k l (m+N e*3+2) o [B false] p->∀q:Int,q=W Z (e+1)->w4=w4/\c [I Z q] p/\d [I Z q]<d [I Z e])/\∃j:KB,g h=some j/\KB.free j=true/\base<=h/\i+N e*3+1<=KB.size j/\∀k:Heap,Upd g h (i+N e*3) j [I Z 0] k->∃l m,a'_1=some (D l m none)/\0<=e/\e<(↑(0+kl):Int)/\∃o:KB,k l=some o/\KB.free o=true/\base<=l/\m+N e*3+2+1<=KB.size o/\∀p:Heap,Upd k l (m+N e*3+2) o [B false] p->∀q:Int,q=W Z (e+1)->w4=w4/\c [I Z q] p/\d [I Z q]<d [I Z e])/\(¬e<(↑(0+kl):Int)->K (T #[A #[S a' (0+ll) c',I Z goal,I Z 0,B false,S a'_1 (0+kl) c'_1,I Z nx],I Z 0]) [] g))/\(¬back=false->∃(c:LI)(d:LM),c [I Z 0] H'_3/\∀(e:Int)(g:Heap),X base H g->c [I Z e] g->(e<(↑(0+kl):Int)->∃h i,a'_1=some (D h i none)/\0<=e/\e<(↑(0+kl):Int)/\(∃j:KB,g h=some j/\KB.free j=true/\base<=h/\i+N e*3+1<=KB.size j/\∀k:Heap,Upd g h (i+N e*3) j [I Z 0] k->∃l m,a'_1=some (D l m none)/\0<=e/\e<(↑(0+kl):Int)/\∃o:KB,k l=some o/\KB.free o=true/\base<=l/\m+N e
 *3+2+1<=KB.size o/\∀p:Heap,Upd k l (m+N e*3+2) o [B false] p->∀q:Int,q=W Z (e+1)->w5=w5/\c [I Z q] p/\d [I Z q]<d [I Z e])/\∃j:KB,g h=some j/\KB.free j=true/\base<=h/\i+N e*3+1<=KB.size j/\∀k:Heap,Upd g h (i+N e*3) j [I Z 0] k->∃l m,a'_1=some (D l m none)/\0<=e/\e<(↑(0+kl):Int)/\∃o:KB,k l=some o/\KB.free o=true/\base<=l/\m+N e*3+2+1<=KB.size o/\∀p:Heap,Upd k l (m+N e*3+2) o [B false] p->∀q:Int,q=W Z (e+1)->w5=w5/\c [I Z q] p/\d [I Z q]<d [I Z e])/\(¬e<(↑(0+kl):Int)->K (T #[A #[S a' (0+ll) c',I Z now,I Z 0,B false,S a'_1 (0+kl) c'_1,I Z nx],I Z 0]) [] g))))/\(¬kd=9->Y Tryz.prog 154 [I Z 4] H'_3 fun a c=>∃(d:O)(e g:Nat)(h i:Int)(j:Bool)(k:O)(l m:Nat)(o p:Int),(fun w2:AV=>a=T w2/\(X base H'_3 c->K (T w2) [] c)) #[A #[S d e g,I Z h,I Z i,B j,S k l m,I Z o],I Z p])) [J b false 28 [I Z fid,S fa fl fc,S ra rl rc,S wa wl wc,I Z bud],J b_1 false 32 [S a' (0+ll) c',I Z now,I Z goal,B back,S a'_1 (0+kl) c'_1,I Z nx],J b_2 false 126 w6,J b_3 false 32 w7]) [[I Z fid,S fa fl fc,S ra rl rc,S wa wl wc,I Z bud],[S a' (0+ll) c',I Z goal,I Z 0,B false,S a'_1 (0+kl) c'_1,I Z nx],w6,w7]) [[I Z fid,S fa fl fc,S ra rl rc,S wa wl wc,I Z bud],[S a' (0+ll) c',I Z now,I Z 0,B false,S a'_1 (0+kl) c'_1,I Z nx],w6,w7]) [I Z kd,I Z ag,I Z tr,I Z n,B gd,I Z id,S qa ql qc]) [S none 0 0,I Z 0,I Z 0,B false,S none 0 0,I Z 0]
abbrev vt87_1(fid bud:Int)(fa ra wa:O)(fl fc rl rc wl wc:Nat)(la ka:O)(ll lc kl kc:Nat)(now goal nx:Int)(back:Bool)(kd ag tr n id:Int)(gd:Bool)(qa:O)(ql qc:Nat)(base:Nat)(H:Heap)(K:KT)(H'_3:Heap)(a':O)(c':Nat)(a'_1:O)(c'_1:Nat)(b:Nat)(b_1:Nat)(b_2:Nat)(b_3:Nat):Prop:=
 ¬kd=4->(kd=5->(0<goal->Y Tryz.prog 154 [I Z 7] H'_3 fun a c=>∃(d:O)(e g:Nat)(h i:Int)(j:Bool)(k:O)(l m:Nat)(o p:Int),(fun w1:AV=>a=T w1/\(X base H'_3 c->K (T w1) [] c)) #[A #[S d e g,I Z h,I Z i,B j,S k l m,I Z o],I Z p])/\(¬0<goal->((↑(0+ll):Int)<n->Y Tryz.prog 154 [I Z 5] H'_3 fun a c=>∃(d:O)(e g:Nat)(h i:Int)(j:Bool)(k:O)(l m:Nat)(o p:Int),(fun w2:AV=>a=T w2/\(X base H'_3 c->K (T w2) [] c)) #[A #[S d e g,I Z h,I Z i,B j,S k l m,I Z o],I Z p])/\(¬(↑(0+ll):Int)<n->(n=now->Y Tryz.prog 154 [I Z 6] H'_3 fun a c=>∃(d:O)(e g:Nat)(h i:Int)(j:Bool)(k:O)(l m:Nat)(o p:Int),(fun w3:AV=>a=T w3/\(X base H'_3 c->K (T w3) [] c)) #[A #[S d e g,I Z h,I Z i,B j,S k l m,I Z o],I Z p])/\(¬n=now->K (T #[A #[S a' (0+ll) c',I Z now,I Z n,B back,S a'_1 (0+kl) c'_1,I Z nx],I Z 0]) [] H'_3))))/\(¬kd=5->(kd=6->(kd=6->((↑(0+kl):Int)<=ag->Y Tryz.prog 154 [I Z 5] H'_3 fun a c=>∃(d:O)(e g:Nat)(h i:Int)(j:Bool)(k:O)(l m:Nat)(o p:Int),(fun w4:AV=>a=T w4/\(X base H'_3 c->K (T w4) [] c)) #[A #[S d e g,I Z h,I Z i,B j,S k l m,I Z o],I Z p])/\(vt87_4 fid bud fa ra wa fl fc rl rc wl wc la ka ll lc kl kc now goal nx back kd ag tr n id gd qa ql qc base H K a'_1 H'_3 b b_1 a' c' c'_1 b_2 b_3))/\(¬kd=6->(vt87_5 fid bud fa ra wa fl fc rl rc wl wc la ka ll lc kl kc now goal nx back kd ag tr n id gd qa ql qc base H K b b_1 a' c' a'_1 c'_1 b_2 b_3 H'_3)/\(vt87_3 fid bud fa ra wa fl fc rl rc wl wc la ka ll lc kl kc now goal nx back kd ag tr n id gd qa ql qc base H K b b_1 a' c' a'_1 c'_1 b_2 b_3 H'_3)))/\(¬kd=6->(kd=7->((↑(0+kl):Int)<=ag->Y Tryz.prog 154 [I Z 5] H'_3 fun a c=>∃(d:O)(e g:Nat)(h i:Int)(j:Bool)(k:O)(l m:Nat)(o p:Int),(fun w5:AV=>a=T w5/\(X base H'_3 c->K (T w5) [] c)) #[A #[S d e g,I Z h,I Z i,B j,S k l m,I Z o],I Z p])/\(vt87_4 fid bud fa ra wa fl fc rl rc wl wc la ka ll lc kl kc now goal nx back kd ag tr n id gd qa ql qc base H K a'_1 H'_3 b b_1 a' c' c'_1 b_2 b_3))/\(¬kd=7->(vt87_5 fid bud fa ra wa fl fc rl rc wl wc la ka ll lc kl kc
 now goal nx back kd ag tr n id gd qa ql qc base H K b b_1 a' c' a'_1 c'_1 b_2 b_3 H'_3)/\(vt87_3 fid bud fa ra wa fl fc rl rc wl wc la ka ll lc kl kc now goal nx back kd ag tr n id gd qa ql qc base H K b b_1 a' c' a'_1 c'_1 b_2 b_3 H'_3))))
abbrev vt87_2(fid bud:Int)(fa ra wa:O)(fl fc rl rc wl wc:Nat)(la ka:O)(ll lc kl kc:Nat)(now goal nx:Int)(back:Bool)(kd ag tr n id:Int)(gd:Bool)(qa:O)(ql qc:Nat)(base:Nat)(H:Heap)(K:KT)(H'_3:Heap)(a':O)(c':Nat)(a'_1:O)(c'_1:Nat):Prop:=
 kd=4->Y Tryz.prog 93 [S qa ql qc,S ra rl rc] H'_3 fun a b=>∃c d,a=T #[I Z c,I Z d]/\(X base H'_3 b->((↑(0+ll):Int)=6->Y Tryz.prog 154 [I Z 2] b fun e g=>∃(h:O)(i j:Nat)(k l:Int)(m:Bool)(o:O)(p q:Nat)(r s:Int),(fun w1:AV=>e=T w1/\(X base b g->K (T w1) [] g)) #[A #[S h i j,I Z k,I Z l,B m,S o p q,I Z r],I Z s])/\(¬(↑(0+ll):Int)=6->∀e:Int,e=W Z ((↑(0+ll):Int)+1)->(¬id=e->Y Tryz.prog 154 [I Z 7] b fun g h=>∃(i:O)(j k:Nat)(l m:Int)(o:Bool)(p:O)(q r:Nat)(s t:Int),(fun w2:AV=>g=T w2/\(X base b h->K (T w2) [] h)) #[A #[S i j k,I Z l,I Z m,B o,S p q r,I Z s],I Z t])/\(¬¬id=e->(0<=c->Y Tryz.prog 154 [I Z 8] b fun g h=>∃(i:O)(j k:Nat)(l m:Int)(o:Bool)(p:O)(q r:Nat)(s t:Int),(fun w3:AV=>g=T w3/\(X base b h->K (T w3) [] h)) #[A #[S i j k,I Z l,I Z m,B o,S p q r,I Z s],I Z t])/\(¬0<=c->∀g:Nat,∃h:List Value,Row base b 24 2 a' (0+ll) c' h/\(0+ll+1)*32<=140737488355328/\0+ll+1<=9223372036854775807/\∀(i:O)(j:Nat)(k:Heap),Grew base b k a' c' i j (0+ll+1)->Row base k 24 2 i (0+ll+1) j (h++[I Z id,S qa ql qc])->K (T #[A #[S i (0+ll+1) j,I Z now,I Z goal,B back,S a'_1 (0+kl) c'_1,I Z nx],I Z 0]) [] k))))
theorem vc87(fid bud:Int)(fa ra wa:O)(fl fc rl rc wl wc:Nat)(la ka:O)(ll lc kl kc:Nat)(now goal nx:Int)(back:Bool)(kd ag tr n id:Int)(gd:Bool)(qa:O)(ql qc:Nat)(base:Nat)(H:Heap)(K:KT):
 (fV TryzMutsJ Tryz.f83 base H [.v (A #[I Z fid,S fa fl fc,S ra rl rc,S wa wl wc,I Z bud]),.v (A #[S la ll lc,I Z now,I Z goal,B back,S ka kl kc,I Z nx]),.v (A #[I Z kd,I Z ag,I Z tr,I Z n,B gd,I Z id,S qa ql qc])] [] K)=(
 ∀a b c d:Nat,Y Tryz.prog 155 [A #[I Z fid,S fa fl fc,S ra rl rc,S wa wl wc,I Z bud],A #[S la ll lc,I Z now,I Z goal,B back,S ka kl kc,I Z nx]] H fun e g=>∃h,e=I Z h/\(X base H g->(¬h=0->Y Tryz.prog 154 [I Z h] g fun i j=>∃(k:O)(l m:Nat)(o p:Int)(q:Bool)(r:O)(s t:Nat)(u v:Int),(fun w1:AV=>i=T w1/\(X base g j->K (T w1) [] j)) #[A #[S k l m,I Z o,I Z p,B q,S r s t,I Z u],I Z v])/\(¬¬h=0->Y Tryz.prog 156 [A #[I Z kd,I Z ag,I Z tr,I Z n,B gd,I Z id,S qa ql qc]] g fun i j=>∃k,i=I Z k/\(X base g j->(¬k=0->Y Tryz.prog 154 [I Z k] j fun l m=>∃(o:O)(p q:Nat)(r s:Int)(t:Bool)(u:O)(v w:Nat)(x y:Int),(fun w2:AV=>l=T w2/\(X base j m->K (T w2) [] m)) #[A #[S o p q,I Z r,I Z s,B t,S u v w,I Z x],I Z y])/\(¬¬k=0->(∀(l:Nat)(m:Heap),X base j m->j l=none->m l=some (boxKB 24 [])->(∃o p:List Value,Row base m 24 2 (some (D l 0 none)) 0 0 o/\List.length p=ll*2/\allOne p=true/\(ll=0∨∃q r,la=some (D q r none)/\cellsAt m q r 0 p)/\(0+ll)*32<=140737488355328/\0+ll<=9223372036854775807/\∀(q:O)(r:Nat)(s:Heap),Grew base m s (some (D l 0 none)) 0 q r (0+ll)->Row base s 24 2 q (0+ll) r (o++p)->∀(t:Nat)(u:Heap),X base s u->s t=none->u t=some (boxKB 95 [])->∃v w:List Value,Row base u 95 3 (some (D t 0 none)) 0 0 v/\List.length w=kl*3/\allOne w=true/\(kl=0∨∃x y,ka=some (D x y none)/\cellsAt u x y 0 w)/\(0+kl)*24<=140737488355328/\0+kl<=9223372036854775807/\∀(x:O)(y:Nat)(z:Heap),Grew base u z (some (D t 0 none)) 0 x y (0+kl)->Row base z 95 3 x (0+kl) y (v++w)->(vt87_2 fid bud fa ra wa fl fc rl rc wl wc la ka ll lc kl kc now goal nx back kd ag tr n id gd qa ql qc base H K z q r x y)/\(vt87_1 fid bud fa ra wa fl fc rl rc wl wc la ka ll lc kl kc now goal nx back kd ag tr n id gd qa ql qc base H K z q r x y a b c d))/\(∀(o:Nat)(p:Heap),X base m p->m o=none->p o=some (boxKB 95 [])->(∃q r:List Value,Row base p 24 2 (some (D l 0 none)) 0 0 q/\List.length r=ll*2/\allOne r=true/\(ll=0∨∃s t,la=some (D s t none)/\cellsAt p s t 0 r)/\(0+ll)
 *32<=140737488355328/\0+ll<=9223372036854775807/\∀(s:O)(t:Nat)(u:Heap),Grew base p u (some (D l 0 none)) 0 s t (0+ll)->Row base u 24 2 s (0+ll) t (q++r)->∃v w:List Value,Row base u 95 3 (some (D o 0 none)) 0 0 v/\List.length w=kl*3/\allOne w=true/\(kl=0∨∃x y,ka=some (D x y none)/\cellsAt u x y 0 w)/\(0+kl)*24<=140737488355328/\0+kl<=9223372036854775807/\∀(x:O)(y:Nat)(z:Heap),Grew base u z (some (D o 0 none)) 0 x y (0+kl)->Row base z 95 3 x (0+kl) y (v++w)->(vt87_2 fid bud fa ra wa fl fc rl rc wl wc la ka ll lc kl kc now goal nx back kd ag tr n id gd qa ql qc base H K z s t x y)/\(vt87_1 fid bud fa ra wa fl fc rl rc wl wc la ka ll lc kl kc now goal nx back kd ag tr n id gd qa ql qc base H K z s t x y a b c d))/\∃q r:List Value,Row base p 24 2 (some (D l 0 none)) 0 0 q/\List.length r=ll*2/\allOne r=true/\(ll=0∨∃s t,la=some (D s t none)/\cellsAt p s t 0 r)/\(0+ll)*32<=140737488355328/\0+ll<=9223372036854775807/\∀(s:O)(t:Nat)(u:Heap),Grew base p u (some (D l 0 none)) 0 s t (0+ll)->Row base u 24 2 s (0+ll) t (q++r)->∃v w:List Value,Row base u 95 3 (some (D o 0 none)) 0 0 v/\List.length w=kl*3/\allOne w=true/\(kl=0∨∃x y,ka=some (D x y none)/\cellsAt u x y 0 w)/\(0+kl)*24<=140737488355328/\0+kl<=9223372036854775807/\∀(x:O)(y:Nat)(z:Heap),Grew base u z (some (D o 0 none)) 0 x y (0+kl)->Row base z 95 3 x (0+kl) y (v++w)->(vt87_2 fid bud fa ra wa fl fc rl rc wl wc la ka ll lc kl kc now goal nx back kd ag tr n id gd qa ql qc base H K z s t x y)/\(vt87_1 fid bud fa ra wa fl fc rl rc wl wc la ka ll lc kl kc now goal nx back kd ag tr n id gd qa ql qc base H K z s t x y a b c d))/\(∃o p:List Value,Row base m 24 2 (some (D l 0 none)) 0 0 o/\List.length p=ll*2/\allOne p=true/\(ll=0∨∃q r,la=some (D q r none)/\cellsAt m q r 0 p)/\(0+ll)*32<=140737488355328/\0+ll<=9223372036854775807/\∀(q:O)(r:Nat)(s:Heap),Grew base m s (some (D l 0 none)) 0 q r (0+ll)->Row base s 24 2 q (0+ll) r (o++p)->∀(t:Nat)
 (u:Heap),X base s u->s t=none->u t=some (boxKB 95 [])->∃v w:List Value,Row base u 95 3 (some (D t 0 none)) 0 0 v/\List.length w=kl*3/\allOne w=true/\(kl=0∨∃x y,ka=some (D x y none)/\cellsAt u x y 0 w)/\(0+kl)*24<=140737488355328/\0+kl<=9223372036854775807/\∀(x:O)(y:Nat)(z:Heap),Grew base u z (some (D t 0 none)) 0 x y (0+kl)->Row base z 95 3 x (0+kl) y (v++w)->(vt87_2 fid bud fa ra wa fl fc rl rc wl wc la ka ll lc kl kc now goal nx back kd ag tr n id gd qa ql qc base H K z q r x y)/\(vt87_1 fid bud fa ra wa fl fc rl rc wl wc la ka ll lc kl kc now goal nx back kd ag tr n id gd qa ql qc base H K z q r x y a b c d))/\∀(o:Nat)(p:Heap),X base m p->m o=none->p o=some (boxKB 95 [])->∃q r:List Value,Row base p 24 2 (some (D l 0 none)) 0 0 q/\List.length r=ll*2/\allOne r=true/\(ll=0∨∃s t,la=some (D s t none)/\cellsAt p s t 0 r)/\(0+ll)*32<=140737488355328/\0+ll<=9223372036854775807/\∀(s:O)(t:Nat)(u:Heap),Grew base p u (some (D l 0 none)) 0 s t (0+ll)->Row base u 24 2 s (0+ll) t (q++r)->∃v w:List Value,Row base u 95 3 (some (D o 0 none)) 0 0 v/\List.length w=kl*3/\allOne w=true/\(kl=0∨∃x y,ka=some (D x y none)/\cellsAt u x y 0 w)/\(0+kl)*24<=140737488355328/\0+kl<=9223372036854775807/\∀(x:O)(y:Nat)(z:Heap),Grew base u z (some (D o 0 none)) 0 x y (0+kl)->Row base z 95 3 x (0+kl) y (v++w)->(vt87_2 fid bud fa ra wa fl fc rl rc wl wc la ka ll lc kl kc now goal nx back kd ag tr n id gd qa ql qc base H K z s t x y)/\(vt87_1 fid bud fa ra wa fl fc rl rc wl wc la ka ll lc kl kc now goal nx back kd ag tr n id gd qa ql qc base H K z s t x y a b c d))/\(∀(l:Nat)(m:Heap),X base j m->j l=none->m l=some (boxKB 95 [])->(∀(o:Nat)(p:Heap),X base m p->m o=none->p o=some (boxKB 24 [])->(∃q r:List Value,Row base p 24 2 (some (D o 0 none)) 0 0 q/\List.length r=ll*2/\allOne r=true/\(ll=0∨∃s t,la=some (D s t none)/\cellsAt p s t 0 r)/\(0+ll)*32<=140737488355328/\0+ll<=9223372036854775807/\∀(s:O)(t:Nat)(u:Heap),Grew
 base p u (some (D o 0 none)) 0 s t (0+ll)->Row base u 24 2 s (0+ll) t (q++r)->∃v w:List Value,Row base u 95 3 (some (D l 0 none)) 0 0 v/\List.length w=kl*3/\allOne w=true/\(kl=0∨∃x y,ka=some (D x y none)/\cellsAt u x y 0 w)/\(0+kl)*24<=140737488355328/\0+kl<=9223372036854775807/\∀(x:O)(y:Nat)(z:Heap),Grew base u z (some (D l 0 none)) 0 x y (0+kl)->Row base z 95 3 x (0+kl) y (v++w)->(vt87_2 fid bud fa ra wa fl fc rl rc wl wc la ka ll lc kl kc now goal nx back kd ag tr n id gd qa ql qc base H K z s t x y)/\(vt87_1 fid bud fa ra wa fl fc rl rc wl wc la ka ll lc kl kc now goal nx back kd ag tr n id gd qa ql qc base H K z s t x y a b c d))/\∃q r:List Value,Row base p 24 2 (some (D o 0 none)) 0 0 q/\List.length r=ll*2/\allOne r=true/\(ll=0∨∃s t,la=some (D s t none)/\cellsAt p s t 0 r)/\(0+ll)*32<=140737488355328/\0+ll<=9223372036854775807/\∀(s:O)(t:Nat)(u:Heap),Grew base p u (some (D o 0 none)) 0 s t (0+ll)->Row base u 24 2 s (0+ll) t (q++r)->∃v w:List Value,Row base u 95 3 (some (D l 0 none)) 0 0 v/\List.length w=kl*3/\allOne w=true/\(kl=0∨∃x y,ka=some (D x y none)/\cellsAt u x y 0 w)/\(0+kl)*24<=140737488355328/\0+kl<=9223372036854775807/\∀(x:O)(y:Nat)(z:Heap),Grew base u z (some (D l 0 none)) 0 x y (0+kl)->Row base z 95 3 x (0+kl) y (v++w)->(vt87_2 fid bud fa ra wa fl fc rl rc wl wc la ka ll lc kl kc now goal nx back kd ag tr n id gd qa ql qc base H K z s t x y)/\(vt87_1 fid bud fa ra wa fl fc rl rc wl wc la ka ll lc kl kc now goal nx back kd ag tr n id gd qa ql qc base H K z s t x y a b c d))/\∀(o:Nat)(p:Heap),X base m p->m o=none->p o=some (boxKB 24 [])->∃q r:List Value,Row base p 24 2 (some (D o 0 none)) 0 0 q/\List.length r=ll*2/\allOne r=true/\(ll=0∨∃s t,la=some (D s t none)/\cellsAt p s t 0 r)/\(0+ll)*32<=140737488355328/\0+ll<=9223372036854775807/\∀(s:O)(t:Nat)(u:Heap),Grew base p u (some (D o 0 none)) 0 s t (0+ll)->Row base u 24 2 s (0+ll) t (q++r)->∃v w:List Value,Row base u 95
 3 (some (D l 0 none)) 0 0 v/\List.length w=kl*3/\allOne w=true/\(kl=0∨∃x y,ka=some (D x y none)/\cellsAt u x y 0 w)/\(0+kl)*24<=140737488355328/\0+kl<=9223372036854775807/\∀(x:O)(y:Nat)(z:Heap),Grew base u z (some (D l 0 none)) 0 x y (0+kl)->Row base z 95 3 x (0+kl) y (v++w)->(vt87_2 fid bud fa ra wa fl fc rl rc wl wc la ka ll lc kl kc now goal nx back kd ag tr n id gd qa ql qc base H K z s t x y)/\(vt87_1 fid bud fa ra wa fl fc rl rc wl wc la ka ll lc kl kc now goal nx back kd ag tr n id gd qa ql qc base H K z s t x y a b c d))/\(∀(l:Nat)(m:Heap),X base j m->j l=none->m l=some (boxKB 24 [])->(∃o p:List Value,Row base m 24 2 (some (D l 0 none)) 0 0 o/\List.length p=ll*2/\allOne p=true/\(ll=0∨∃q r,la=some (D q r none)/\cellsAt m q r 0 p)/\(0+ll)*32<=140737488355328/\0+ll<=9223372036854775807/\∀(q:O)(r:Nat)(s:Heap),Grew base m s (some (D l 0 none)) 0 q r (0+ll)->Row base s 24 2 q (0+ll) r (o++p)->∀(t:Nat)(u:Heap),X base s u->s t=none->u t=some (boxKB 95 [])->∃v w:List Value,Row base u 95 3 (some (D t 0 none)) 0 0 v/\List.length w=kl*3/\allOne w=true/\(kl=0∨∃x y,ka=some (D x y none)/\cellsAt u x y 0 w)/\(0+kl)*24<=140737488355328/\0+kl<=9223372036854775807/\∀(x:O)(y:Nat)(z:Heap),Grew base u z (some (D t 0 none)) 0 x y (0+kl)->Row base z 95 3 x (0+kl) y (v++w)->(vt87_2 fid bud fa ra wa fl fc rl rc wl wc la ka ll lc kl kc now goal nx back kd ag tr n id gd qa ql qc base H K z q r x y)/\(vt87_1 fid bud fa ra wa fl fc rl rc wl wc la ka ll lc kl kc now goal nx back kd ag tr n id gd qa ql qc base H K z q r x y a b c d))/\∀(o:Nat)(p:Heap),X base m p->m o=none->p o=some (boxKB 95 [])->∃q r:List Value,Row base p 24 2 (some (D l 0 none)) 0 0 q/\List.length r=ll*2/\allOne r=true/\(ll=0∨∃s t,la=some (D s t none)/\cellsAt p s t 0 r)/\(0+ll)*32<=140737488355328/\0+ll<=9223372036854775807/\∀(s:O)(t:Nat)(u:Heap),Grew base p u (some (D l 0 none)) 0 s t (0+ll)->Row base u 24 2 s (0+ll) t (q++r)->∃v
 w:List Value,Row base u 95 3 (some (D o 0 none)) 0 0 v/\List.length w=kl*3/\allOne w=true/\(kl=0∨∃x y,ka=some (D x y none)/\cellsAt u x y 0 w)/\(0+kl)*24<=140737488355328/\0+kl<=9223372036854775807/\∀(x:O)(y:Nat)(z:Heap),Grew base u z (some (D o 0 none)) 0 x y (0+kl)->Row base z 95 3 x (0+kl) y (v++w)->(vt87_2 fid bud fa ra wa fl fc rl rc wl wc la ka ll lc kl kc now goal nx back kd ag tr n id gd qa ql qc base H K z s t x y)/\(vt87_1 fid bud fa ra wa fl fc rl rc wl wc la ka ll lc kl kc now goal nx back kd ag tr n id gd qa ql qc base H K z s t x y a b c d))/\∀(l:Nat)(m:Heap),X base j m->j l=none->m l=some (boxKB 95 [])->∀(o:Nat)(p:Heap),X base m p->m o=none->p o=some (boxKB 24 [])->∃q r:List Value,Row base p 24 2 (some (D o 0 none)) 0 0 q/\List.length r=ll*2/\allOne r=true/\(ll=0∨∃s t,la=some (D s t none)/\cellsAt p s t 0 r)/\(0+ll)*32<=140737488355328/\0+ll<=9223372036854775807/\∀(s:O)(t:Nat)(u:Heap),Grew base p u (some (D o 0 none)) 0 s t (0+ll)->Row base u 24 2 s (0+ll) t (q++r)->∃v w:List Value,Row base u 95 3 (some (D l 0 none)) 0 0 v/\List.length w=kl*3/\allOne w=true/\(kl=0∨∃x y,ka=some (D x y none)/\cellsAt u x y 0 w)/\(0+kl)*24<=140737488355328/\0+kl<=9223372036854775807/\∀(x:O)(y:Nat)(z:Heap),Grew base u z (some (D l 0 none)) 0 x y (0+kl)->Row base z 95 3 x (0+kl) y (v++w)->(vt87_2 fid bud fa ra wa fl fc rl rc wl wc la ka ll lc kl kc now goal nx back kd ag tr n id gd qa ql qc base H K z s t x y)/\(vt87_1 fid bud fa ra wa fl fc rl rc wl wc la ka ll lc kl kc now goal nx back kd ag tr n id gd qa ql qc base H K z s t x y a b c d)))))):=by kernel_rfl
open Go Go.Proofs
open Go Go.Proofs
end Go.Vg
