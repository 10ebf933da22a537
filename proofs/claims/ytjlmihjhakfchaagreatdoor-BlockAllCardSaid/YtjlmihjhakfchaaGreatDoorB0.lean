import Derived.Test.YtjlmihjhakfchaaGreatDoorN8
set_option linter.unusedVariables false
set_option linter.unusedSimpArgs false
namespace Go.AM.C
open Go.Proofs
noncomputable section
abbrev SM0:Sg:=SC base3
theorem sM0:Sound Tryz.prog SM0:=sc_sound (base3_ok _ (sc_glob _) (sc_pin _))
def m0_71_0:Memo:=[([.str [57,57]],.tup [.ip [.obj (.zp 99),.obj (.zp 1)] 0 true,.int .i64 0,.nili]),([.str [54]],.tup [.ip [.obj (.zp 6),.obj (.zp 1)] 0 true,.int .i64 0,.nili]),([.str [49,48,48]],.tup [.ip [.obj (.zp 100),.obj (.zp 1)] 0 true,.int .i64 0,.nili]),([.str [53]],.tup [.ip [.obj (.zp 5),.obj (.zp 1)] 0 true,.int .i64 0,.nili]),([.str [57,55,46,53]],.tup [.ip [.obj (.zp 195),.obj (.zp 2)] 0 true,.int .i64 1,.nili]),([.str [57,56]],.tup [.ip [.obj (.zp 98),.obj (.zp 1)] 0 true,.int .i64 0,.nili]),([.str [50,53]],.tup [.ip [.obj (.zp 25),.obj (.zp 1)] 0 true,.int .i64 0,.nili])]
theorem m0_71_0_ok:AllM 94 m0_71_0:=memOK_ok sM0 (show memOK SM0 94 m0_71_0=true by kernel_rfl)
def m0_71_1:Memo:=[([.str [45,49,46,53,48]],.tup [.ip [.obj (.zp (-3)),.obj (.zp 2)] 0 true,.int .i64 2,.nili])]
theorem m0_71_1_ok:AllM 94 m0_71_1:=memOK_ok sM0 (show memOK SM0 94 m0_71_1=true by kernel_rfl)
def m0_216_0:Memo:=[([.int .i64 36524],.tup [.agg [.int .i64 2000,.int .i64 1,.int .i64 1],.nili]),([.int .i64 38351],.tup [.agg [.int .i64 2005,.int .i64 1,.int .i64 1],.nili]),([.int .i64 36890],.tup [.agg [.int .i64 2001,.int .i64 1,.int .i64 1],.nili]),([.int .i64 36706],.tup [.agg [.int .i64 2000,.int .i64 7,.int .i64 1],.nili]),([.int .i64 730],.tup [.agg [.int .i64 1902,.int .i64 1,.int .i64 1],.nili]),([.int .i64 36583],.tup [.agg [.int .i64 2000,.int .i64 2,.int .i64 29],.nili])]
theorem m0_216_0_ok:AllM 213 m0_216_0:=memOK_ok sM0 (show memOK SM0 213 m0_216_0=true by kernel_rfl)
def m0_114_0:Memo:=[([.ip [.obj (.zp 100),.obj (.zp 1)] 0 true],.obj (.zp 100)),([.ip [.obj (.zp 0),.obj (.zp 1)] 0 true],.obj (.zp 0)),([.ip [.obj (.zp 1),.obj (.zp 1)] 0 true],.obj (.zp 1)),([.ip [.obj (.zp 98),.obj (.zp 1)] 0 true],.obj (.zp 98)),([.ip [.obj (.zp 1),.obj (.zp 5)] 0 true],.obj (.zp 1))]
theorem m0_114_0_ok:AllM 162 m0_114_0:=memOK_ok sM0 (show memOK SM0 162 m0_114_0=true by kernel_rfl)
def m0_116_0:Memo:=[([.ip [.obj (.zp 100),.obj (.zp 1)] 0 true],.obj (.zp 1)),([.ip [.obj (.zp 0),.obj (.zp 1)] 0 true],.obj (.zp 1)),([.ip [.obj (.zp 1),.obj (.zp 1)] 0 true],.obj (.zp 1)),([.ip [.obj (.zp 1),.obj (.zp 5)] 0 true],.obj (.zp 5)),([.ip [.obj (.zp 98),.obj (.zp 1)] 0 true],.obj (.zp 1))]
theorem m0_116_0_ok:AllM 164 m0_116_0:=memOK_ok sM0 (show memOK SM0 164 m0_116_0=true by kernel_rfl)
def m0_165_0:Memo:=[([.ip [.obj (.zp 3),.obj (.zp 1)] 0 true],.str [51])]
theorem m0_165_0_ok:AllM 192 m0_165_0:=memOK_ok sM0 (show memOK SM0 192 m0_165_0=true by kernel_rfl)
def m0_278_0:Memo:=[([.str [48,49]],.tup [.int .i64 1,.nili])]
theorem m0_278_0_ok:AllM 297 m0_278_0:=memOK_ok sM0 (show memOK SM0 297 m0_278_0=true by kernel_rfl)
def m0_126_0:Memo:=[([.str [98,111,110,100,32,50,32,50,48,48,48,45,48,49,45,48,49,32,50,48,48,49,45,48,49,45,48,49,32,50,32,54,32,49,48,48,32,51,48,32,110,111,110,101,32,100,97,121,32,48],.str [32],.int .i64 0,.int .i64 (-1)],.isl [.str [98,111,110,100],.str [50],.str [50,48,48,48,45,48,49,45,48,49],.str [50,48,48,49,45,48,49,45,48,49],.str [50],.str [54],.str [49,48,48],.str [51,48],.str [110,111,110,101],.str [100,97,121],.str [48]] 0 11 (some 11) true),([.str [116,114,97,100,101,32,49,32,50,32,50,48,48,48,45,48,52,45,48,49,32,49,48,48,48,48,32,57,57,32,55,32,99],.str [32],.int .i64 0,.int .i64 (-1)],.isl [.str [116,114,97,100,101],.str [49],.str [50],.str [50,48,48,48,45,48,52,45,48,49],.str [49,48,48,48,48],.str [57,57],.str [55],.str [99]] 0 8 (some 8) true)]
theorem m0_126_0_ok:AllM 134 m0_126_0:=memOK_ok sM0 (show memOK SM0 134 m0_126_0=true by kernel_rfl)
def m0_238_0:Memo:=[([.str [49,48,51]],.tup [.ip [.obj (.zp 103),.obj (.zp 1)] 0 true,.nili]),([.str [53]],.tup [.ip [.obj (.zp 5),.obj (.zp 1)] 0 true,.nili]),([.str [49,48,54]],.tup [.ip [.obj (.zp 106),.obj (.zp 1)] 0 true,.nili])]
theorem m0_238_0_ok:AllM 272 m0_238_0:=memOK_ok sM0 (show memOK SM0 272 m0_238_0=true by kernel_rfl)
def m0_112_0:Memo:=[([.obj (.zp 0),.obj (.zp 1)],.tup [.ip [.obj (.zp 0),.obj (.zp 1)] 0 true,.nili]),([.obj (.zp 1),.obj (.zp 1)],.tup [.ip [.obj (.zp 1),.obj (.zp 1)] 0 true,.nili])]
theorem m0_112_0_ok:AllM 160 m0_112_0:=memOK_ok sM0 (show memOK SM0 160 m0_112_0=true by kernel_rfl)
def m0_373_0:Memo:=[([.obj (.zp 1),.obj (.zp 1)],.tup [.obj (.zp 1),.obj (.zp 0),.nili])]
theorem m0_373_0_ok:AllM 410 m0_373_0:=memOK_ok sM0 (show memOK SM0 410 m0_373_0=true by kernel_rfl)
def m0_227_0:Memo:=[([.int .i64 100,.int .i64 1],.ip [.obj (.zp 100),.obj (.zp 1)] 0 true),([.int .i64 73,.int .i64 365],.ip [.obj (.zp 1),.obj (.zp 5)] 0 true)]
theorem m0_227_0_ok:AllM 261 m0_227_0:=memOK_ok sM0 (show memOK SM0 261 m0_227_0=true by kernel_rfl)
def m0_399_0:Memo:=[([],.bool true)]
theorem m0_399_0_ok:AllM 437 m0_399_0:=memOK_ok sM0 (show memOK SM0 437 m0_399_0=true by kernel_rfl)
def m0_400_0:Memo:=[([.obj (.np 100000000000000000000)],.int .i64 67)]
theorem m0_400_0_ok:AllM 438 m0_400_0:=memOK_ok sM0 (show memOK SM0 438 m0_400_0=true by kernel_rfl)
def m0_143_0:Memo:=[([.int .i64 36948],.str [50,48,48,49,45,48,50,45,50,56]),([.int .i64 45380],.str [50,48,50,52,45,48,51,45,51,49])]
theorem m0_143_0_ok:AllM 128 m0_143_0:=memOK_ok sM0 (show memOK SM0 128 m0_143_0=true by kernel_rfl)
def M0_71:Memo:=m0_71_0 ++ m0_71_1
theorem M0_71_ok:AllM 94 M0_71:=allM_app (m0_71_0_ok) m0_71_1_ok
def M0_216:Memo:=m0_216_0
theorem M0_216_ok:AllM 213 M0_216:=m0_216_0_ok
def M0_114:Memo:=m0_114_0
theorem M0_114_ok:AllM 162 M0_114:=m0_114_0_ok
def M0_116:Memo:=m0_116_0
theorem M0_116_ok:AllM 164 M0_116:=m0_116_0_ok
def M0_165:Memo:=m0_165_0
theorem M0_165_ok:AllM 192 M0_165:=m0_165_0_ok
def M0_278:Memo:=m0_278_0
theorem M0_278_ok:AllM 297 M0_278:=m0_278_0_ok
def M0_126:Memo:=m0_126_0
theorem M0_126_ok:AllM 134 M0_126:=m0_126_0_ok
def M0_238:Memo:=m0_238_0
theorem M0_238_ok:AllM 272 M0_238:=m0_238_0_ok
def M0_112:Memo:=m0_112_0
theorem M0_112_ok:AllM 160 M0_112:=m0_112_0_ok
def M0_373:Memo:=m0_373_0
theorem M0_373_ok:AllM 410 M0_373:=m0_373_0_ok
def M0_227:Memo:=m0_227_0
theorem M0_227_ok:AllM 261 M0_227:=m0_227_0_ok
def M0_399:Memo:=m0_399_0
theorem M0_399_ok:AllM 437 M0_399:=m0_399_0_ok
def M0_400:Memo:=m0_400_0
theorem M0_400_ok:AllM 438 M0_400:=m0_400_0_ok
def M0_143:Memo:=m0_143_0
theorem M0_143_ok:AllM 128 M0_143:=m0_143_0_ok
noncomputable def baseM0:List Ent:=qNo (memX M0_71) 94 :: qNo (memX M0_216) 213 :: qNo (memX M0_114) 162 :: qNo (memX M0_116) 164 :: qNo (memX M0_165) 192 :: qNo (memX M0_278) 297 :: qNo (memX M0_126) 134 :: qNo (memX M0_238) 272 :: qNo (memX M0_112) 160 :: qNo (memX M0_373) 410 :: qNo (memX M0_227) 261 :: qNo (memX M0_399) 437 :: qNo (memX M0_400) 438 :: qNo (memX M0_143) 128 :: base3
theorem baseM0_ok (S:Sg) (hg:S.glob=S0.glob) (hp:S.pin=S0.pin):AllE Tryz.prog S baseM0:=⟨memX_ok S hg hp M0_71_ok,memX_ok S hg hp M0_216_ok,memX_ok S hg hp M0_114_ok,memX_ok S hg hp M0_116_ok,memX_ok S hg hp M0_165_ok,memX_ok S hg hp M0_278_ok,memX_ok S hg hp M0_126_ok,memX_ok S hg hp M0_238_ok,memX_ok S hg hp M0_112_ok,memX_ok S hg hp M0_373_ok,memX_ok S hg hp M0_227_ok,memX_ok S hg hp M0_399_ok,memX_ok S hg hp M0_400_ok,memX_ok S hg hp M0_143_ok,base3_ok S hg hp⟩
end
end Go.AM.C
namespace Go.AM.C
open Go.Proofs
noncomputable section
abbrev SM1:Sg:=SC baseM0
theorem sM1:Sound Tryz.prog SM1:=sc_sound (baseM0_ok _ (sc_glob _) (sc_pin _))
def m1_346_0:Memo:=[([.int .i64 36524,.int .i64 360,.bool false],.tup [.int .i64 47482,.nili]),([.int .i64 38351,.int .i64 (-6),.bool false],.tup [.int .i64 38167,.nili]),([.int .i64 38351,.int .i64 (-18),.bool false],.tup [.int .i64 37801,.nili]),([.int .i64 38351,.int .i64 (-30),.bool false],.tup [.int .i64 37436,.nili]),([.int .i64 38351,.int .i64 (-42),.bool false],.tup [.int .i64 37071,.nili]),([.int .i64 38351,.int .i64 (-54),.bool false],.tup [.int .i64 36706,.nili]),([.int .i64 36890,.int .i64 (-6),.bool false],.tup [.int .i64 36706,.nili])]
theorem m1_346_0_ok:AllM 378 m1_346_0:=memOK_ok sM1 (show memOK SM1 378 m1_346_0=true by kernel_rfl)
def m1_293_0:Memo:=[([.agg [.int .i64 36524,.int .i64 38351,.int .i64 2,.str [54],.str [49,48,48],.int .i64 1,.int .i64 0,.bool false,.int .i64 0]],.nili),([.agg [.int .i64 36524,.int .i64 36890,.int .i64 2,.str [54],.str [49,48,48],.int .i64 1,.int .i64 0,.bool false,.int .i64 0]],.nili),([.agg [.int .i64 36524,.int .i64 36890,.int .i64 1,.str [54],.str [49,48,48],.int .i64 1,.int .i64 0,.bool false,.int .i64 0]],.nili)]
theorem m1_293_0_ok:AllM 321 m1_293_0:=memOK_ok sM1 (show memOK SM1 321 m1_293_0=true by kernel_rfl)
def m1_336_0:Memo:=[([.int .i64 1,.int .i64 36524,.int .i64 36615],.int .i64 90)]
theorem m1_336_0_ok:AllM 377 m1_336_0:=memOK_ok sM1 (show memOK SM1 377 m1_336_0=true by kernel_rfl)
def m1_76_0:Memo:=[([.ip [.obj (.zp 99),.obj (.zp 1)] 0 true,.int .i64 10000],.tup [.int .i64 9900,.nili]),([.ip [.obj (.zp 3),.obj (.zp 2)] 0 true,.int .i64 10000],.tup [.int .i64 150,.nili])]
theorem m1_76_0_ok:AllM 99 m1_76_0:=memOK_ok sM1 (show memOK SM1 99 m1_76_0=true by kernel_rfl)
def m1_209_0:Memo:=[([.str [50,48,48,48,45,48,49,45,48,49]],.tup [.int .i64 36524,.nili]),([.str [50,48,48,49,45,48,49,45,48,49]],.tup [.int .i64 36890,.nili]),([.str [50,48,48,48,45,48,52,45,48,49]],.tup [.int .i64 36615,.nili])]
theorem m1_209_0_ok:AllM 218 m1_209_0:=memOK_ok sM1 (show memOK SM1 218 m1_209_0=true by kernel_rfl)
def m1_83_0:Memo:=[([.agg [.int .i64 7,.int .i64 0,.int .i64 2,.int .i64 0,.int .i64 0,.int .i64 0,.str [],.str [],.int .i64 0,.int .i64 0,.bool false,.int .i64 0,.int .i64 36524,.int .i64 0,.str [],.int .i64 0,.str [],.nils,.int .i64 6000000]],.isl [.str [112,114,105,99,101],.str [50],.str [50,48,48,48,45,48,49,45,48,49],.str [54,48,48,48,48,48,48]] 0 4 none true)]
theorem m1_83_0_ok:AllM 69 m1_83_0:=memOK_ok sM1 (show memOK SM1 69 m1_83_0=true by kernel_rfl)
def m1_238_0:Memo:=[([.str [51]],.tup [.ip [.obj (.zp 3),.obj (.zp 1)] 0 true,.nili])]
theorem m1_238_0_ok:AllM 272 m1_238_0:=memOK_ok sM1 (show memOK SM1 272 m1_238_0=true by kernel_rfl)
def m1_273_0:Memo:=[([.int .i64 1,.int .i64 36524,.int .i64 36706,.int .i64 36524,.int .i64 36706,.int .i64 2],.tup [.ip [.obj (.zp 1),.obj (.zp 2)] 0 true,.nili]),([.int .i64 1,.int .i64 36524,.int .i64 36524,.int .i64 36524,.int .i64 36706,.int .i64 2],.tup [.ip [.obj (.zp 0),.obj (.zp 1)] 0 true,.nili]),([.int .i64 1,.int .i64 36524,.int .i64 36890,.int .i64 36524,.int .i64 36890,.int .i64 1],.tup [.ip [.obj (.zp 1),.obj (.zp 1)] 0 true,.nili]),([.int .i64 1,.int .i64 36524,.int .i64 36524,.int .i64 36524,.int .i64 36890,.int .i64 1],.tup [.ip [.obj (.zp 0),.obj (.zp 1)] 0 true,.nili]),([.int .i64 1,.int .i64 36583,.int .i64 36948,.int .i64 0,.int .i64 0,.int .i64 0],.tup [.ip [.obj (.zp 359),.obj (.zp 360)] 0 true,.nili])]
theorem m1_273_0_ok:AllM 316 m1_273_0:=memOK_ok sM1 (show memOK SM1 316 m1_273_0=true by kernel_rfl)
def m1_123_0:Memo:=[([.ip [.obj (.zp 1),.obj (.zp 1)] 0 true,.ip [.obj (.zp 0),.obj (.zp 1)] 0 true],.ip [.obj (.zp 1),.obj (.zp 1)] 0 true),([.ip [.obj (.zp 100),.obj (.zp 1)] 0 true,.ip [.obj (.zp 5),.obj (.zp 2)] 0 true],.ip [.obj (.zp 195),.obj (.zp 2)] 0 true),([.ip [.obj (.zp 100),.obj (.zp 1)] 0 true,.ip [.obj (.zp 195),.obj (.zp 2)] 0 true],.ip [.obj (.zp 5),.obj (.zp 2)] 0 true),([.ip [.obj (.zp 1),.obj (.zp 1)] 0 true,.ip [.obj (.zp 1),.obj (.zp 74)] 0 true],.ip [.obj (.zp 73),.obj (.zp 74)] 0 true),([.ip [.obj (.zp 4),.obj (.zp 5)] 0 true,.ip [.obj (.zp 1),.obj (.zp 1)] 0 true],.ip [.obj (.zp (-1)),.obj (.zp 5)] 0 true),([.ip [.obj (.zp 5),.obj (.zp 4)] 0 true,.ip [.obj (.zp 1),.obj (.zp 1)] 0 true],.ip [.obj (.zp 1),.obj (.zp 4)] 0 true)]
theorem m1_123_0_ok:AllM 171 m1_123_0:=memOK_ok sM1 (show memOK SM1 171 m1_123_0=true by kernel_rfl)
def m1_372_0:Memo:=[([.isl [.ip [.obj (.zp 3),.obj (.zp 1)] 0 true,.ip [.obj (.zp 103),.obj (.zp 1)] 0 true] 0 2 none true],.tup [.isl [.obj (.zp 3),.obj (.zp 103)] 0 2 none true,.obj (.zp 1)])]
theorem m1_372_0_ok:AllM 409 m1_372_0:=memOK_ok sM1 (show memOK SM1 409 m1_372_0=true by kernel_rfl)
def m1_227_0:Memo:=[([.int .i64 1,.int .i64 1],.ip [.obj (.zp 1),.obj (.zp 1)] 0 true)]
theorem m1_227_0_ok:AllM 261 m1_227_0:=memOK_ok sM1 (show memOK SM1 261 m1_227_0=true by kernel_rfl)
def m1_232_0:Memo:=[([.int .i64 1,.int .i64 1],.ip [.obj (.zp 1),.obj (.zp 1)] 0 true)]
theorem m1_232_0_ok:AllM 266 m1_232_0:=memOK_ok sM1 (show memOK SM1 266 m1_232_0=true by kernel_rfl)
def m1_299_0:Memo:=[([.agg [.int .i64 360,.int .i64 0,.str [50,53]]],.tup [.ip [.obj (.zp 1),.obj (.zp 4)] 0 true,.nili]),([.agg [.int .i64 730,.int .i64 1,.str [48]]],.tup [.ip [.obj (.zp 0),.obj (.zp 1)] 0 true,.nili])]
theorem m1_299_0_ok:AllM 327 m1_299_0:=memOK_ok sM1 (show memOK SM1 327 m1_299_0=true by kernel_rfl)
def m1_398_0:Memo:=[([.obj (.np 100000000000000000000),.int .i64 2],.obj (.np 10000000000))]
theorem m1_398_0_ok:AllM 436 m1_398_0:=memOK_ok sM1 (show memOK SM1 436 m1_398_0=true by kernel_rfl)
def M1_346:Memo:=m1_346_0
theorem M1_346_ok:AllM 378 M1_346:=m1_346_0_ok
def M1_293:Memo:=m1_293_0
theorem M1_293_ok:AllM 321 M1_293:=m1_293_0_ok
def M1_336:Memo:=m1_336_0
theorem M1_336_ok:AllM 377 M1_336:=m1_336_0_ok
def M1_76:Memo:=m1_76_0
theorem M1_76_ok:AllM 99 M1_76:=m1_76_0_ok
def M1_209:Memo:=m1_209_0
theorem M1_209_ok:AllM 218 M1_209:=m1_209_0_ok
def M1_83:Memo:=m1_83_0
theorem M1_83_ok:AllM 69 M1_83:=m1_83_0_ok
def M1_238:Memo:=m0_238_0 ++ m1_238_0
theorem M1_238_ok:AllM 272 M1_238:=allM_app (m0_238_0_ok) m1_238_0_ok
def M1_273:Memo:=m1_273_0
theorem M1_273_ok:AllM 316 M1_273:=m1_273_0_ok
def M1_123:Memo:=m1_123_0
theorem M1_123_ok:AllM 171 M1_123:=m1_123_0_ok
def M1_372:Memo:=m1_372_0
theorem M1_372_ok:AllM 409 M1_372:=m1_372_0_ok
def M1_227:Memo:=m0_227_0 ++ m1_227_0
theorem M1_227_ok:AllM 261 M1_227:=allM_app (m0_227_0_ok) m1_227_0_ok
def M1_232:Memo:=m1_232_0
theorem M1_232_ok:AllM 266 M1_232:=m1_232_0_ok
def M1_299:Memo:=m1_299_0
theorem M1_299_ok:AllM 327 M1_299:=m1_299_0_ok
def M1_398:Memo:=m1_398_0
theorem M1_398_ok:AllM 436 M1_398:=m1_398_0_ok
noncomputable def baseM1:List Ent:=qNo (memX M1_346) 378 :: qNo (memX M1_293) 321 :: qNo (memX M1_336) 377 :: qNo (memX M1_76) 99 :: qNo (memX M1_209) 218 :: qNo (memX M1_83) 69 :: qNo (memX M1_238) 272 :: qNo (memX M1_273) 316 :: qNo (memX M1_123) 171 :: qNo (memX M1_372) 409 :: qNo (memX M1_227) 261 :: qNo (memX M1_232) 266 :: qNo (memX M1_299) 327 :: qNo (memX M1_398) 436 :: baseM0
theorem baseM1_ok (S:Sg) (hg:S.glob=S0.glob) (hp:S.pin=S0.pin):AllE Tryz.prog S baseM1:=⟨memX_ok S hg hp M1_346_ok,memX_ok S hg hp M1_293_ok,memX_ok S hg hp M1_336_ok,memX_ok S hg hp M1_76_ok,memX_ok S hg hp M1_209_ok,memX_ok S hg hp M1_83_ok,memX_ok S hg hp M1_238_ok,memX_ok S hg hp M1_273_ok,memX_ok S hg hp M1_123_ok,memX_ok S hg hp M1_372_ok,memX_ok S hg hp M1_227_ok,memX_ok S hg hp M1_232_ok,memX_ok S hg hp M1_299_ok,memX_ok S hg hp M1_398_ok,baseM0_ok S hg hp⟩
end
end Go.AM.C
namespace Go.AM.C
open Go.Proofs
noncomputable section
abbrev SM2:Sg:=SC baseM1
theorem sM2:Sound Tryz.prog SM2:=sc_sound (baseM1_ok _ (sc_glob _) (sc_pin _))
def m2_218_0:Memo:=[([.agg [.int .i64 36524,.int .i64 38351,.int .i64 2,.str [54],.str [49,48,48],.int .i64 1,.int .i64 0,.bool false,.int .i64 0]],.nili),([.agg [.int .i64 36524,.int .i64 36890,.int .i64 2,.str [54],.str [49,48,48],.int .i64 1,.int .i64 0,.bool false,.int .i64 0]],.nili),([.agg [.int .i64 36524,.int .i64 36890,.int .i64 1,.str [54],.str [49,48,48],.int .i64 1,.int .i64 0,.bool false,.int .i64 0]],.nili)]
theorem m2_218_0_ok:AllM 251 m2_218_0:=memOK_ok sM2 (show memOK SM2 251 m2_218_0=true by kernel_rfl)
def m2_334_0:Memo:=[([.agg [.int .i64 36524,.int .i64 38351,.int .i64 2,.str [54],.str [49,48,48],.int .i64 1,.int .i64 0,.bool false,.int .i64 0],.int .i64 36706],.tup [.int .i64 9,.bool true])]
theorem m2_334_0_ok:AllM 375 m2_334_0:=memOK_ok sM2 (show memOK SM2 375 m2_334_0=true by kernel_rfl)
def m2_31_0:Memo:=[([.str [112,114,105,99,101,32,50,32,50,48,48,48,45,48,49,45,48,49,32,54,48,48,48,48,48,48]],.tup [.agg [.int .i64 7,.int .i64 0,.int .i64 2,.int .i64 0,.int .i64 0,.int .i64 0,.str [],.str [],.int .i64 0,.int .i64 0,.bool false,.int .i64 0,.int .i64 36524,.int .i64 0,.str [],.int .i64 0,.str [],.nils,.int .i64 6000000],.nili]),([.str [98,111,110,100,32,50,32,50,48,48,48,45,48,49,45,48,49,32,50,48,48,49,45,48,49,45,48,49,32,50,32,54,32,49,48,48,32,51,48,32,110,111,110,101,32,100,97,121,32,48]],.tup [.agg [.int .i64 1,.int .i64 2,.int .i64 0,.int .i64 36524,.int .i64 36890,.int .i64 2,.str [54],.str [49,48,48],.int .i64 1,.int .i64 0,.bool false,.int .i64 0,.int .i64 0,.int .i64 0,.str [],.int .i64 0,.str [],.nils,.int .i64 0],.nili]),([.str [116,114,97,100,101,32,49,32,50,32,50,48,48,48,45,48,52,45,48,49,32,49,48,48,48,48,32,57,57,32,55,32,99]],.tup [.agg [.int .i64 2,.int .i64 1,.int .i64 2,.int .i64 0,.int .i64 0,.int .i64 0,.str [],.str [],.int .i64 0,.int .i64 0,.bool false,.int .i64 0,.int .i64 36615,.int .i64 10000,.str [57,57],.int .i64 7,.str [99],.nils,.int .i64 0],.nili])]
theorem m2_31_0_ok:AllM 23 m2_31_0:=memOK_ok sM2 (show memOK SM2 23 m2_31_0=true by kernel_rfl)
def m2_156_0:Memo:=[([.int .i64 0,.int .i64 180,.str [53]],.tup [.ip [.obj (.zp 195),.obj (.zp 2)] 0 true,.nili])]
theorem m2_156_0_ok:AllM 183 m2_156_0:=memOK_ok sM2 (show memOK SM2 183 m2_156_0=true by kernel_rfl)
def m2_157_0:Memo:=[([.int .i64 0,.int .i64 180,.str [57,55,46,53]],.tup [.ip [.obj (.zp 5),.obj (.zp 1)] 0 true,.nili])]
theorem m2_157_0_ok:AllM 184 m2_157_0:=memOK_ok sM2 (show memOK SM2 184 m2_157_0=true by kernel_rfl)
def m2_230_0:Memo:=[([.int .i64 73,.ip [.obj (.zp 98),.obj (.zp 1)] 0 true,.int .i64 0],.ip [.obj (.zp 98),.obj (.zp 1)] 0 true),([.int .i64 73,.ip [.obj (.zp 98),.obj (.zp 1)] 0 true,.int .i64 100000000],.ip [.obj (.zp 588),.obj (.zp 5)] 0 true),([.int .i64 73,.ip [.obj (.zp 98),.obj (.zp 1)] 0 true,.int .i64 50000000],.ip [.obj (.zp 539),.obj (.zp 5)] 0 true)]
theorem m2_230_0_ok:AllM 264 m2_230_0:=memOK_ok sM2 (show memOK SM2 264 m2_230_0=true by kernel_rfl)
def m2_230_1:Memo:=[([.int .i64 73,.ip [.obj (.zp 98),.obj (.zp 1)] 0 true,.int .i64 25000000],.ip [.obj (.zp 1029),.obj (.zp 10)] 0 true),([.int .i64 73,.ip [.obj (.zp 98),.obj (.zp 1)] 0 true,.int .i64 12500000],.ip [.obj (.zp 2009),.obj (.zp 20)] 0 true),([.int .i64 73,.ip [.obj (.zp 98),.obj (.zp 1)] 0 true,.int .i64 6250000],.ip [.obj (.zp 3969),.obj (.zp 40)] 0 true)]
theorem m2_230_1_ok:AllM 264 m2_230_1:=memOK_ok sM2 (show memOK SM2 264 m2_230_1=true by kernel_rfl)
def m2_230_2:Memo:=[([.int .i64 73,.ip [.obj (.zp 98),.obj (.zp 1)] 0 true,.int .i64 9375000],.ip [.obj (.zp 7987),.obj (.zp 80)] 0 true),([.int .i64 73,.ip [.obj (.zp 98),.obj (.zp 1)] 0 true,.int .i64 10937500],.ip [.obj (.zp 16023),.obj (.zp 160)] 0 true),([.int .i64 73,.ip [.obj (.zp 98),.obj (.zp 1)] 0 true,.int .i64 10156250],.ip [.obj (.zp 31997),.obj (.zp 320)] 0 true)]
theorem m2_230_2_ok:AllM 264 m2_230_2:=memOK_ok sM2 (show memOK SM2 264 m2_230_2=true by kernel_rfl)
def m2_230_3:Memo:=[([.int .i64 73,.ip [.obj (.zp 98),.obj (.zp 1)] 0 true,.int .i64 10546875],.ip [.obj (.zp 64043),.obj (.zp 640)] 0 true),([.int .i64 73,.ip [.obj (.zp 98),.obj (.zp 1)] 0 true,.int .i64 10351562],.ip [.obj (.zp 12503613269),.obj (.zp 125000000)] 0 true),([.int .i64 73,.ip [.obj (.zp 98),.obj (.zp 1)] 0 true,.int .i64 10253906],.ip [.obj (.zp 12501220697),.obj (.zp 125000000)] 0 true)]
theorem m2_230_3_ok:AllM 264 m2_230_3:=memOK_ok sM2 (show memOK SM2 264 m2_230_3=true by kernel_rfl)
def m2_230_4:Memo:=[([.int .i64 73,.ip [.obj (.zp 98),.obj (.zp 1)] 0 true,.int .i64 10205078],.ip [.obj (.zp 12500024411),.obj (.zp 125000000)] 0 true),([.int .i64 73,.ip [.obj (.zp 98),.obj (.zp 1)] 0 true,.int .i64 10180664],.ip [.obj (.zp 3124856567),.obj (.zp 31250000)] 0 true),([.int .i64 73,.ip [.obj (.zp 98),.obj (.zp 1)] 0 true,.int .i64 10192871],.ip [.obj (.zp 24999450679),.obj (.zp 250000000)] 0 true)]
theorem m2_230_4_ok:AllM 264 m2_230_4:=memOK_ok sM2 (show memOK SM2 264 m2_230_4=true by kernel_rfl)
def m2_230_5:Memo:=[([.int .i64 73,.ip [.obj (.zp 98),.obj (.zp 1)] 0 true,.int .i64 10198974],.ip [.obj (.zp 12499874863),.obj (.zp 125000000)] 0 true),([.int .i64 73,.ip [.obj (.zp 98),.obj (.zp 1)] 0 true,.int .i64 10202026],.ip [.obj (.zp 12499949637),.obj (.zp 125000000)] 0 true),([.int .i64 73,.ip [.obj (.zp 98),.obj (.zp 1)] 0 true,.int .i64 10203552],.ip [.obj (.zp 781249189),.obj (.zp 7812500)] 0 true)]
theorem m2_230_5_ok:AllM 264 m2_230_5:=memOK_ok sM2 (show memOK SM2 264 m2_230_5=true by kernel_rfl)
def m2_230_6:Memo:=[([.int .i64 73,.ip [.obj (.zp 98),.obj (.zp 1)] 0 true,.int .i64 10204315],.ip [.obj (.zp 5000002287),.obj (.zp 50000000)] 0 true),([.int .i64 73,.ip [.obj (.zp 98),.obj (.zp 1)] 0 true,.int .i64 10203933],.ip [.obj (.zp 24999992717),.obj (.zp 250000000)] 0 true),([.int .i64 73,.ip [.obj (.zp 98),.obj (.zp 1)] 0 true,.int .i64 10204124],.ip [.obj (.zp 6250000519),.obj (.zp 62500000)] 0 true)]
theorem m2_230_6_ok:AllM 264 m2_230_6:=memOK_ok sM2 (show memOK SM2 264 m2_230_6=true by kernel_rfl)
def m2_230_7:Memo:=[([.int .i64 73,.ip [.obj (.zp 98),.obj (.zp 1)] 0 true,.int .i64 10204028],.ip [.obj (.zp 6249999343),.obj (.zp 62500000)] 0 true),([.int .i64 73,.ip [.obj (.zp 98),.obj (.zp 1)] 0 true,.int .i64 10204076],.ip [.obj (.zp 6249999931),.obj (.zp 62500000)] 0 true),([.int .i64 73,.ip [.obj (.zp 98),.obj (.zp 1)] 0 true,.int .i64 10204100],.ip [.obj (.zp 250000009),.obj (.zp 2500000)] 0 true)]
theorem m2_230_7_ok:AllM 264 m2_230_7:=memOK_ok sM2 (show memOK SM2 264 m2_230_7=true by kernel_rfl)
def m2_230_8:Memo:=[([.int .i64 73,.ip [.obj (.zp 98),.obj (.zp 1)] 0 true,.int .i64 10204088],.ip [.obj (.zp 3125000039),.obj (.zp 31250000)] 0 true),([.int .i64 73,.ip [.obj (.zp 98),.obj (.zp 1)] 0 true,.int .i64 10204082],.ip [.obj (.zp 12500000009),.obj (.zp 125000000)] 0 true),([.int .i64 73,.ip [.obj (.zp 98),.obj (.zp 1)] 0 true,.int .i64 10204079],.ip [.obj (.zp 24999999871),.obj (.zp 250000000)] 0 true)]
theorem m2_230_8_ok:AllM 264 m2_230_8:=memOK_ok sM2 (show memOK SM2 264 m2_230_8=true by kernel_rfl)
def m2_230_9:Memo:=[([.int .i64 73,.ip [.obj (.zp 98),.obj (.zp 1)] 0 true,.int .i64 10204080],.ip [.obj (.zp 312499999),.obj (.zp 3125000)] 0 true),([.int .i64 73,.ip [.obj (.zp 98),.obj (.zp 1)] 0 true,.int .i64 10204081],.ip [.obj (.zp 24999999969),.obj (.zp 250000000)] 0 true)]
theorem m2_230_9_ok:AllM 264 m2_230_9:=memOK_ok sM2 (show memOK SM2 264 m2_230_9=true by kernel_rfl)
def m2_300_0:Memo:=[([.ip [.obj (.zp 1),.obj (.zp 4)] 0 true,.int .i64 360],.tup [.ip [.obj (.zp 4),.obj (.zp 5)] 0 true,.nili])]
theorem m2_300_0_ok:AllM 328 m2_300_0:=memOK_ok sM2 (show memOK SM2 328 m2_300_0=true by kernel_rfl)
def m2_348_0:Memo:=[([.int .i64 0,.int .i64 730,.int .i64 1],.tup [.isl [.int .i64 730,.ip [.obj (.zp 1),.obj (.zp 1)] 0 true,.int .i64 365,.ip [.obj (.zp 1),.obj (.zp 1)] 0 true] 0 2 none true,.nili])]
theorem m2_348_0_ok:AllM 380 m2_348_0:=memOK_ok sM2 (show memOK SM2 380 m2_348_0=true by kernel_rfl)
def m2_236_0:Memo:=[([.ip [.obj (.zp 1),.obj (.zp 1)] 0 true,.ip [.obj (.zp 4),.obj (.zp 5)] 0 true,.int .i64 360],.tup [.ip [.obj (.zp 25),.obj (.zp 1)] 0 true,.nili])]
theorem m2_236_0_ok:AllM 270 m2_236_0:=memOK_ok sM2 (show memOK SM2 270 m2_236_0=true by kernel_rfl)
def m2_391_0:Memo:=[([],.bool true)]
theorem m2_391_0_ok:AllM 429 m2_391_0:=memOK_ok sM2 (show memOK SM2 429 m2_391_0=true by kernel_rfl)
def M2_218:Memo:=m2_218_0
theorem M2_218_ok:AllM 251 M2_218:=m2_218_0_ok
def M2_334:Memo:=m2_334_0
theorem M2_334_ok:AllM 375 M2_334:=m2_334_0_ok
def M2_31:Memo:=m2_31_0
theorem M2_31_ok:AllM 23 M2_31:=m2_31_0_ok
def M2_156:Memo:=m2_156_0
theorem M2_156_ok:AllM 183 M2_156:=m2_156_0_ok
def M2_157:Memo:=m2_157_0
theorem M2_157_ok:AllM 184 M2_157:=m2_157_0_ok
def M2_230:Memo:=m2_230_0 ++ m2_230_1 ++ m2_230_2 ++ m2_230_3 ++ m2_230_4 ++ m2_230_5 ++ m2_230_6 ++ m2_230_7 ++ m2_230_8 ++ m2_230_9
theorem M2_230_ok:AllM 264 M2_230:=allM_app (allM_app (allM_app (allM_app (allM_app (allM_app (allM_app (allM_app (allM_app (m2_230_0_ok) m2_230_1_ok) m2_230_2_ok) m2_230_3_ok) m2_230_4_ok) m2_230_5_ok) m2_230_6_ok) m2_230_7_ok) m2_230_8_ok) m2_230_9_ok
def M2_300:Memo:=m2_300_0
theorem M2_300_ok:AllM 328 M2_300:=m2_300_0_ok
def M2_348:Memo:=m2_348_0
theorem M2_348_ok:AllM 380 M2_348:=m2_348_0_ok
def M2_236:Memo:=m2_236_0
theorem M2_236_ok:AllM 270 M2_236:=m2_236_0_ok
def M2_391:Memo:=m2_391_0
theorem M2_391_ok:AllM 429 M2_391:=m2_391_0_ok
noncomputable def baseM2:List Ent:=qNo (memX M2_218) 251 :: qNo (memX M2_334) 375 :: qNo (memX M2_31) 23 :: qNo (memX M2_156) 183 :: qNo (memX M2_157) 184 :: qNo (memX M2_230) 264 :: qNo (memX M2_300) 328 :: qNo (memX M2_348) 380 :: qNo (memX M2_236) 270 :: qNo (memX M2_391) 429 :: baseM1
theorem baseM2_ok (S:Sg) (hg:S.glob=S0.glob) (hp:S.pin=S0.pin):AllE Tryz.prog S baseM2:=⟨memX_ok S hg hp M2_218_ok,memX_ok S hg hp M2_334_ok,memX_ok S hg hp M2_31_ok,memX_ok S hg hp M2_156_ok,memX_ok S hg hp M2_157_ok,memX_ok S hg hp M2_230_ok,memX_ok S hg hp M2_300_ok,memX_ok S hg hp M2_348_ok,memX_ok S hg hp M2_236_ok,memX_ok S hg hp M2_391_ok,baseM1_ok S hg hp⟩
end
end Go.AM.C
namespace Go.AM.C
open Go.Proofs
noncomputable section
abbrev SM3:Sg:=SC baseM2
theorem sM3:Sound Tryz.prog SM3:=sc_sound (baseM2_ok _ (sc_glob _) (sc_pin _))
def m3_196_0:Memo:=[([.agg [.int .i64 36524,.int .i64 38351,.int .i64 2,.str [54],.str [49,48,48],.int .i64 1,.int .i64 0,.bool false,.int .i64 0]],.tup [.isl [.int .i64 36524,.int .i64 36706,.int .i64 36706,.int .i64 36890,.int .i64 36890,.int .i64 37071,.int .i64 37071,.int .i64 37255,.int .i64 37255,.int .i64 37436,.int .i64 37436,.int .i64 37620,.int .i64 37620,.int .i64 37801,.int .i64 37801,.int .i64 37985,.int .i64 37985,.int .i64 38167,.int .i64 38167,.int .i64 38351] 0 10 none true,.nili]),([.agg [.int .i64 36524,.int .i64 36890,.int .i64 2,.str [54],.str [49,48,48],.int .i64 1,.int .i64 0,.bool false,.int .i64 0]],.tup [.isl [.int .i64 36524,.int .i64 36706,.int .i64 36706,.int .i64 36890] 0 2 none true,.nili])]
theorem m3_196_0_ok:AllM 240 m3_196_0:=memOK_ok sM3 (show memOK SM3 240 m3_196_0=true by kernel_rfl)
def m3_196_1:Memo:=[([.agg [.int .i64 36524,.int .i64 36890,.int .i64 1,.str [54],.str [49,48,48],.int .i64 1,.int .i64 0,.bool false,.int .i64 0]],.tup [.isl [.int .i64 36524,.int .i64 36890] 0 1 none true,.nili])]
theorem m3_196_1_ok:AllM 240 m3_196_1:=memOK_ok sM3 (show memOK SM3 240 m3_196_1=true by kernel_rfl)
def m3_201_0:Memo:=[([.agg [.int .i64 36524,.int .i64 38351,.int .i64 2,.str [54],.str [49,48,48],.int .i64 1,.int .i64 0,.bool false,.int .i64 0]],.ip [.obj (.zp 3),.obj (.zp 1)] 0 true),([.agg [.int .i64 36524,.int .i64 36890,.int .i64 2,.str [54],.str [49,48,48],.int .i64 1,.int .i64 0,.bool false,.int .i64 0]],.ip [.obj (.zp 3),.obj (.zp 1)] 0 true)]
theorem m3_201_0_ok:AllM 245 m3_201_0:=memOK_ok sM3 (show memOK SM3 245 m3_201_0=true by kernel_rfl)
def m3_271_0:Memo:=[([.agg [.int .i64 36524,.int .i64 36890,.int .i64 2,.str [54],.str [49,48,48],.int .i64 1,.int .i64 0,.bool false,.int .i64 0],.int .i64 36706],.tup [.int .i64 36524,.nili]),([.agg [.int .i64 36524,.int .i64 36890,.int .i64 1,.str [54],.str [49,48,48],.int .i64 1,.int .i64 0,.bool false,.int .i64 0],.int .i64 36890],.tup [.int .i64 36524,.nili])]
theorem m3_271_0_ok:AllM 314 m3_271_0:=memOK_ok sM3 (show memOK SM3 314 m3_271_0=true by kernel_rfl)
def m3_158_0:Memo:=[([.int .i64 0,.int .i64 73,.str [57,56]],.tup [.int .i64 10204081,.nili])]
theorem m3_158_0_ok:AllM 185 m3_158_0:=memOK_ok sM3 (show memOK SM3 185 m3_158_0=true by kernel_rfl)
def m3_356_0:Memo:=[([],.bool true)]
theorem m3_356_0_ok:AllM 388 m3_356_0:=memOK_ok sM3 (show memOK SM3 388 m3_356_0=true by kernel_rfl)
def M3_196:Memo:=m3_196_0 ++ m3_196_1
theorem M3_196_ok:AllM 240 M3_196:=allM_app (m3_196_0_ok) m3_196_1_ok
def M3_201:Memo:=m3_201_0
theorem M3_201_ok:AllM 245 M3_201:=m3_201_0_ok
def M3_271:Memo:=m3_271_0
theorem M3_271_ok:AllM 314 M3_271:=m3_271_0_ok
def M3_158:Memo:=m3_158_0
theorem M3_158_ok:AllM 185 M3_158:=m3_158_0_ok
def M3_356:Memo:=m3_356_0
theorem M3_356_ok:AllM 388 M3_356:=m3_356_0_ok
noncomputable def baseM3:List Ent:=qNo (memX M3_196) 240 :: qNo (memX M3_201) 245 :: qNo (memX M3_271) 314 :: qNo (memX M3_158) 185 :: qNo (memX M3_356) 388 :: baseM2
theorem baseM3_ok (S:Sg) (hg:S.glob=S0.glob) (hp:S.pin=S0.pin):AllE Tryz.prog S baseM3:=⟨memX_ok S hg hp M3_196_ok,memX_ok S hg hp M3_201_ok,memX_ok S hg hp M3_271_ok,memX_ok S hg hp M3_158_ok,memX_ok S hg hp M3_356_ok,baseM2_ok S hg hp⟩
end
end Go.AM.C
namespace Go.AM.C
open Go.Proofs
noncomputable section
abbrev SM4:Sg:=SC baseM3
theorem sM4:Sound Tryz.prog SM4:=sc_sound (baseM3_ok _ (sc_glob _) (sc_pin _))
def m4_122_0:Memo:=[([.agg [.int .i64 36524,.int .i64 38351,.int .i64 2,.str [54],.str [49,48,48],.int .i64 1,.int .i64 0,.bool false,.int .i64 0],.agg [.int .i64 36524,.int .i64 36706]],.tup [.ip [.obj (.zp 3),.obj (.zp 1)] 0 true,.nili]),([.agg [.int .i64 36524,.int .i64 36890,.int .i64 1,.str [54],.str [49,48,48],.int .i64 1,.int .i64 0,.bool false,.int .i64 0],.agg [.int .i64 36524,.int .i64 36890]],.tup [.ip [.obj (.zp 6),.obj (.zp 1)] 0 true,.nili])]
theorem m4_122_0_ok:AllM 170 m4_122_0:=memOK_ok sM4 (show memOK SM4 170 m4_122_0=true by kernel_rfl)
def m4_199_0:Memo:=[([.agg [.int .i64 36524,.int .i64 38351,.int .i64 2,.str [54],.str [49,48,48],.int .i64 1,.int .i64 0,.bool false,.int .i64 0],.agg [.int .i64 36524,.int .i64 36706],.int .i64 36524,.int .i64 36615],.tup [.ip [.obj (.zp 1),.obj (.zp 4)] 0 true,.nili]),([.agg [.int .i64 36524,.int .i64 36890,.int .i64 2,.str [54],.str [49,48,48],.int .i64 1,.int .i64 0,.bool false,.int .i64 0],.agg [.int .i64 36524,.int .i64 36706],.int .i64 36524,.int .i64 36615],.tup [.ip [.obj (.zp 1),.obj (.zp 4)] 0 true,.nili])]
theorem m4_199_0_ok:AllM 243 m4_199_0:=memOK_ok sM4 (show memOK SM4 243 m4_199_0=true by kernel_rfl)
def m4_265_0:Memo:=[([.agg [.int .i64 36524,.int .i64 36890,.int .i64 2,.str [54],.str [49,48,48],.int .i64 1,.int .i64 0,.bool false,.int .i64 0]],.tup [.isl [.int .i64 36706,.str [51],.int .i64 36890,.str [49,48,51]] 0 2 none true,.nili])]
theorem m4_265_0_ok:AllM 308 m4_265_0:=memOK_ok sM4 (show memOK SM4 308 m4_265_0=true by kernel_rfl)
def M4_122:Memo:=m4_122_0
theorem M4_122_ok:AllM 170 M4_122:=m4_122_0_ok
def M4_199:Memo:=m4_199_0
theorem M4_199_ok:AllM 243 M4_199:=m4_199_0_ok
def M4_265:Memo:=m4_265_0
theorem M4_265_ok:AllM 308 M4_265:=m4_265_0_ok
noncomputable def baseM4:List Ent:=qNo (memX M4_122) 170 :: qNo (memX M4_199) 243 :: qNo (memX M4_265) 308 :: baseM3
theorem baseM4_ok (S:Sg) (hg:S.glob=S0.glob) (hp:S.pin=S0.pin):AllE Tryz.prog S baseM4:=⟨memX_ok S hg hp M4_122_ok,memX_ok S hg hp M4_199_ok,memX_ok S hg hp M4_265_ok,baseM3_ok S hg hp⟩
end
end Go.AM.C
namespace Go.AM.C
open Go.Proofs
noncomputable section
abbrev SM5:Sg:=SC baseM4
theorem sM5:Sound Tryz.prog SM5:=sc_sound (baseM4_ok _ (sc_glob _) (sc_pin _))
def m5_265_0:Memo:=[([.agg [.int .i64 36524,.int .i64 38351,.int .i64 2,.str [54],.str [49,48,48],.int .i64 1,.int .i64 0,.bool false,.int .i64 0]],.tup [.isl [.int .i64 36706,.str [51],.int .i64 36890,.str [51],.int .i64 37071,.str [51],.int .i64 37255,.str [51],.int .i64 37436,.str [51],.int .i64 37620,.str [51],.int .i64 37801,.str [51],.int .i64 37985,.str [51],.int .i64 38167,.str [51],.int .i64 38351,.str [49,48,51]] 0 10 none true,.nili]),([.agg [.int .i64 36524,.int .i64 36890,.int .i64 1,.str [54],.str [49,48,48],.int .i64 1,.int .i64 0,.bool false,.int .i64 0]],.tup [.isl [.int .i64 36890,.str [49,48,54]] 0 1 none true,.nili])]
theorem m5_265_0_ok:AllM 308 m5_265_0:=memOK_ok sM5 (show memOK SM5 308 m5_265_0=true by kernel_rfl)
def m5_120_0:Memo:=[([.agg [.int .i64 36524,.int .i64 38351,.int .i64 2,.str [54],.str [49,48,48],.int .i64 1,.int .i64 0,.bool false,.int .i64 0],.agg [.int .i64 36524,.int .i64 36706],.int .i64 36615],.tup [.ip [.obj (.zp 3),.obj (.zp 2)] 0 true,.nili]),([.agg [.int .i64 36524,.int .i64 36890,.int .i64 2,.str [54],.str [49,48,48],.int .i64 1,.int .i64 0,.bool false,.int .i64 0],.agg [.int .i64 36524,.int .i64 36706],.int .i64 36615],.tup [.ip [.obj (.zp 3),.obj (.zp 2)] 0 true,.nili])]
theorem m5_120_0_ok:AllM 168 m5_120_0:=memOK_ok sM5 (show memOK SM5 168 m5_120_0=true by kernel_rfl)
def m5_349_0:Memo:=[([.agg [.int .i64 36524,.int .i64 36890,.int .i64 2,.str [54],.str [49,48,48],.int .i64 1,.int .i64 0,.bool false,.int .i64 0],.int .i64 36524],.tup [.isl [.ip [.obj (.zp 3),.obj (.zp 1)] 0 true,.ip [.obj (.zp 103),.obj (.zp 1)] 0 true] 0 2 none true,.nili])]
theorem m5_349_0_ok:AllM 381 m5_349_0:=memOK_ok sM5 (show memOK SM5 381 m5_349_0=true by kernel_rfl)
def m5_304_0:Memo:=[([.agg [.int .i64 36524,.int .i64 36890,.int .i64 2,.str [54],.str [49,48,48],.int .i64 1,.int .i64 0,.bool false,.int .i64 0],.int .i64 36524],.tup [.ip [.obj (.zp 1),.obj (.zp 1)] 0 true,.nili])]
theorem m5_304_0_ok:AllM 332 m5_304_0:=memOK_ok sM5 (show memOK SM5 332 m5_304_0=true by kernel_rfl)
def m5_75_0:Memo:=[([.agg [.int .i64 36524,.int .i64 36890,.int .i64 2,.str [54],.str [49,48,48],.int .i64 1,.int .i64 0,.bool false,.int .i64 0],.int .i64 36524],.tup [.ip [.obj (.zp 0),.obj (.zp 1)] 0 true,.nili])]
theorem m5_75_0_ok:AllM 98 m5_75_0:=memOK_ok sM5 (show memOK SM5 98 m5_75_0=true by kernel_rfl)
def M5_265:Memo:=m4_265_0 ++ m5_265_0
theorem M5_265_ok:AllM 308 M5_265:=allM_app (m4_265_0_ok) m5_265_0_ok
def M5_120:Memo:=m5_120_0
theorem M5_120_ok:AllM 168 M5_120:=m5_120_0_ok
def M5_349:Memo:=m5_349_0
theorem M5_349_ok:AllM 381 M5_349:=m5_349_0_ok
def M5_304:Memo:=m5_304_0
theorem M5_304_ok:AllM 332 M5_304:=m5_304_0_ok
def M5_75:Memo:=m5_75_0
theorem M5_75_ok:AllM 98 M5_75:=m5_75_0_ok
noncomputable def baseM5:List Ent:=qNo (memX M5_265) 308 :: qNo (memX M5_120) 168 :: qNo (memX M5_349) 381 :: qNo (memX M5_304) 332 :: qNo (memX M5_75) 98 :: baseM4
theorem baseM5_ok (S:Sg) (hg:S.glob=S0.glob) (hp:S.pin=S0.pin):AllE Tryz.prog S baseM5:=⟨memX_ok S hg hp M5_265_ok,memX_ok S hg hp M5_120_ok,memX_ok S hg hp M5_349_ok,memX_ok S hg hp M5_304_ok,memX_ok S hg hp M5_75_ok,baseM4_ok S hg hp⟩
end
end Go.AM.C
namespace Go.AM.C
open Go.Proofs
noncomputable section
abbrev SM6:Sg:=SC baseM5
theorem sM6:Sound Tryz.prog SM6:=sc_sound (baseM5_ok _ (sc_glob _) (sc_pin _))
def m6_75_0:Memo:=[([.agg [.int .i64 36524,.int .i64 38351,.int .i64 2,.str [54],.str [49,48,48],.int .i64 1,.int .i64 0,.bool false,.int .i64 0],.int .i64 36615],.tup [.ip [.obj (.zp 3),.obj (.zp 2)] 0 true,.nili]),([.agg [.int .i64 36524,.int .i64 36890,.int .i64 2,.str [54],.str [49,48,48],.int .i64 1,.int .i64 0,.bool false,.int .i64 0],.int .i64 36615],.tup [.ip [.obj (.zp 3),.obj (.zp 2)] 0 true,.nili])]
theorem m6_75_0_ok:AllM 98 m6_75_0:=memOK_ok sM6 (show memOK SM6 98 m6_75_0=true by kernel_rfl)
def m6_303_0:Memo:=[([.agg [.int .i64 36524,.int .i64 36890,.int .i64 2,.str [54],.str [49,48,48],.int .i64 1,.int .i64 0,.bool false,.int .i64 0],.int .i64 36524,.int .i64 6000000],.tup [.ip [.obj (.zp 100),.obj (.zp 1)] 0 true,.nili])]
theorem m6_303_0_ok:AllM 331 m6_303_0:=memOK_ok sM6 (show memOK SM6 331 m6_303_0=true by kernel_rfl)
def m6_349_0:Memo:=[([.agg [.int .i64 36524,.int .i64 36890,.int .i64 1,.str [54],.str [49,48,48],.int .i64 1,.int .i64 0,.bool false,.int .i64 0],.int .i64 36524],.tup [.isl [.ip [.obj (.zp 106),.obj (.zp 1)] 0 true] 0 1 none true,.nili])]
theorem m6_349_0_ok:AllM 381 m6_349_0:=memOK_ok sM6 (show memOK SM6 381 m6_349_0=true by kernel_rfl)
def m6_304_0:Memo:=[([.agg [.int .i64 36524,.int .i64 36890,.int .i64 1,.str [54],.str [49,48,48],.int .i64 1,.int .i64 0,.bool false,.int .i64 0],.int .i64 36524],.tup [.ip [.obj (.zp 1),.obj (.zp 1)] 0 true,.nili]),([.agg [.int .i64 36524,.int .i64 38351,.int .i64 2,.str [54],.str [49,48,48],.int .i64 1,.int .i64 0,.bool false,.int .i64 0],.int .i64 36524],.tup [.ip [.obj (.zp 1),.obj (.zp 1)] 0 true,.nili])]
theorem m6_304_0_ok:AllM 332 m6_304_0:=memOK_ok sM6 (show memOK SM6 332 m6_304_0=true by kernel_rfl)
def M6_75:Memo:=m5_75_0 ++ m6_75_0
theorem M6_75_ok:AllM 98 M6_75:=allM_app (m5_75_0_ok) m6_75_0_ok
def M6_303:Memo:=m6_303_0
theorem M6_303_ok:AllM 331 M6_303:=m6_303_0_ok
def M6_349:Memo:=m5_349_0 ++ m6_349_0
theorem M6_349_ok:AllM 381 M6_349:=allM_app (m5_349_0_ok) m6_349_0_ok
def M6_304:Memo:=m5_304_0 ++ m6_304_0
theorem M6_304_ok:AllM 332 M6_304:=allM_app (m5_304_0_ok) m6_304_0_ok
noncomputable def baseM6:List Ent:=qNo (memX M6_75) 98 :: qNo (memX M6_303) 331 :: qNo (memX M6_349) 381 :: qNo (memX M6_304) 332 :: baseM5
theorem baseM6_ok (S:Sg) (hg:S.glob=S0.glob) (hp:S.pin=S0.pin):AllE Tryz.prog S baseM6:=⟨memX_ok S hg hp M6_75_ok,memX_ok S hg hp M6_303_ok,memX_ok S hg hp M6_349_ok,memX_ok S hg hp M6_304_ok,baseM5_ok S hg hp⟩
end
end Go.AM.C
namespace Go.AM.C
open Go.Proofs
noncomputable section
abbrev SM7:Sg:=SC baseM6
theorem sM7:Sound Tryz.prog SM7:=sc_sound (baseM6_ok _ (sc_glob _) (sc_pin _))
def m7_29_0:Memo:=[([.agg [.int .i64 36524,.int .i64 38351,.int .i64 2,.str [54],.str [49,48,48],.int .i64 1,.int .i64 0,.bool false,.int .i64 0],.agg [.int .i64 1,.int .i64 2,.int .i64 36615,.int .i64 10000,.str [57,57],.int .i64 7,.str [99]]],.tup [.int .i64 9900,.int .i64 150,.nili]),([.agg [.int .i64 36524,.int .i64 36890,.int .i64 2,.str [54],.str [49,48,48],.int .i64 1,.int .i64 0,.bool false,.int .i64 0],.agg [.int .i64 1,.int .i64 2,.int .i64 36615,.int .i64 10000,.str [57,57],.int .i64 7,.str [99]]],.tup [.int .i64 9900,.int .i64 150,.nili])]
theorem m7_29_0_ok:AllM 33 m7_29_0:=memOK_ok sM7 (show memOK SM7 33 m7_29_0=true by kernel_rfl)
def m7_224_0:Memo:=[([.agg [.int .i64 36524,.int .i64 36890,.int .i64 2,.str [54],.str [49,48,48],.int .i64 1,.int .i64 0,.bool false,.int .i64 0],.int .i64 36524,.int .i64 6000000,.int .i64 6,.int .i64 2],.tup [.str [49,48,48,46,48,48,48,48,48,48],.nili])]
theorem m7_224_0_ok:AllM 258 m7_224_0:=memOK_ok sM7 (show memOK SM7 258 m7_224_0=true by kernel_rfl)
def m7_303_0:Memo:=[([.agg [.int .i64 36524,.int .i64 36890,.int .i64 1,.str [54],.str [49,48,48],.int .i64 1,.int .i64 0,.bool false,.int .i64 0],.int .i64 36524,.int .i64 6000000],.tup [.ip [.obj (.zp 100),.obj (.zp 1)] 0 true,.nili])]
theorem m7_303_0_ok:AllM 331 m7_303_0:=memOK_ok sM7 (show memOK SM7 331 m7_303_0=true by kernel_rfl)
def M7_29:Memo:=m7_29_0
theorem M7_29_ok:AllM 33 M7_29:=m7_29_0_ok
def M7_224:Memo:=m7_224_0
theorem M7_224_ok:AllM 258 M7_224:=m7_224_0_ok
def M7_303:Memo:=m6_303_0 ++ m7_303_0
theorem M7_303_ok:AllM 331 M7_303:=allM_app (m6_303_0_ok) m7_303_0_ok
noncomputable def baseM7:List Ent:=qNo (memX M7_29) 33 :: qNo (memX M7_224) 258 :: qNo (memX M7_303) 331 :: baseM6
theorem baseM7_ok (S:Sg) (hg:S.glob=S0.glob) (hp:S.pin=S0.pin):AllE Tryz.prog S baseM7:=⟨memX_ok S hg hp M7_29_ok,memX_ok S hg hp M7_224_ok,memX_ok S hg hp M7_303_ok,baseM6_ok S hg hp⟩
end
end Go.AM.C
namespace Go.AM.C
open Go.Proofs
noncomputable section
abbrev SM8:Sg:=SC baseM7
theorem sM8:Sound Tryz.prog SM8:=sc_sound (baseM7_ok _ (sc_glob _) (sc_pin _))
def m8_305_0:Memo:=[([.agg [.int .i64 36524,.int .i64 36890,.int .i64 1,.str [54],.str [49,48,48],.int .i64 1,.int .i64 0,.bool false,.int .i64 0],.int .i64 36524,.int .i64 6000000],.tup [.ip [.obj (.zp 1),.obj (.zp 1)] 0 true,.nili])]
theorem m8_305_0_ok:AllM 333 m8_305_0:=memOK_ok sM8 (show memOK SM8 333 m8_305_0=true by kernel_rfl)
def M8_305:Memo:=m8_305_0
theorem M8_305_ok:AllM 333 M8_305:=m8_305_0_ok
noncomputable def baseM8:List Ent:=qNo (memX M8_305) 333 :: baseM7
theorem baseM8_ok (S:Sg) (hg:S.glob=S0.glob) (hp:S.pin=S0.pin):AllE Tryz.prog S baseM8:=⟨memX_ok S hg hp M8_305_ok,baseM7_ok S hg hp⟩
end
end Go.AM.C
namespace Go.AM.C
open Go.Proofs
noncomputable section
abbrev SM9:Sg:=SC baseM8
theorem sM9:Sound Tryz.prog SM9:=sc_sound (baseM8_ok _ (sc_glob _) (sc_pin _))
def m9_239_0:Memo:=[([],.bool true)]
theorem m9_239_0_ok:AllM 273 m9_239_0:=memOK_ok sM9 (show memOK SM9 273 m9_239_0=true by kernel_rfl)
def M9_239:Memo:=m9_239_0
theorem M9_239_ok:AllM 273 M9_239:=m9_239_0_ok
noncomputable def baseM9:List Ent:=qNo (memX M9_239) 273 :: baseM8
theorem baseM9_ok (S:Sg) (hg:S.glob=S0.glob) (hp:S.pin=S0.pin):AllE Tryz.prog S baseM9:=⟨memX_ok S hg hp M9_239_ok,baseM8_ok S hg hp⟩
end
end Go.AM.C
namespace Go.AM.C
open Go.Proofs
noncomputable section
abbrev SM10:Sg:=SC baseM9
theorem sM10:Sound Tryz.prog SM10:=sc_sound (baseM9_ok _ (sc_glob _) (sc_pin _))
def m10_86_0:Memo:=[([],.bool true)]
theorem m10_86_0_ok:AllM 103 m10_86_0:=memOK_ok sM10 (show memOK SM10 103 m10_86_0=true by kernel_rfl)
def M10_86:Memo:=m10_86_0
theorem M10_86_ok:AllM 103 M10_86:=m10_86_0_ok
noncomputable def baseM10:List Ent:=qNo (memX M10_86) 103 :: baseM9
theorem baseM10_ok (S:Sg) (hg:S.glob=S0.glob) (hp:S.pin=S0.pin):AllE Tryz.prog S baseM10:=⟨memX_ok S hg hp M10_86_ok,baseM9_ok S hg hp⟩
end
end Go.AM.C
