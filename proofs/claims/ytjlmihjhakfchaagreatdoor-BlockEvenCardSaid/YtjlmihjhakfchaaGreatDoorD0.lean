/- Part of a proof over the program's translation: Contracts, 25: the first of January, year by year, piece 0. Printed by a program (days.py).; Contracts, 25: the first of January, year by year, piece 1. Printed by a program (days.py).; Contracts, 25: the first of January, year by year, piece 2. Printed by a program (days.py). .. -/
import Derived.Test.YtjlmihjhakfchaaGreatDoorF0
/- Contracts, 25: the first of January, year by year, piece 0. Printed by a program (days.py). -/
namespace Go.AM.C
open Go.Proofs
noncomputable section
set_option linter.unusedVariables false
set_option linter.unusedSimpArgs false

def ruleA : AVal := .agg [.int .i64 1, .int .i64 1, .int .i64 1, .int .i64 0, .int .i64 0, .bool false]
noncomputable def givesD (r : Option (AVal × Heap)) (d : Nat) : Bool := match r with
  | some (.tup [.int .i64 (.ofNat e), .bool true], _) => Nat.beq e d
  | _ => false
def dayT0 : List (Nat × Nat) := [(1900, 0), (1901, 365), (1902, 730), (1903, 1095), (1904, 1460), (1905, 1826), (1906, 2191), (1907, 2556), (1908, 2921), (1909, 3287), (1910, 3652), (1911, 4017), (1912, 4382), (1913, 4748), (1914, 5113), (1915, 5478), (1916, 5843), (1917, 6209), (1918, 6574), (1919, 6939), (1920, 7304), (1921, 7670), (1922, 8035), (1923, 8400), (1924, 8765), (1925, 9131), (1926, 9496), (1927, 9861), (1928, 10226), (1929, 10592), (1930, 10957), (1931, 11322), (1932, 11687), (1933, 12053), (1934, 12418), (1935, 12783), (1936, 13148), (1937, 13514), (1938, 13879), (1939, 14244), (1940, 14609), (1941, 14975), (1942, 15340), (1943, 15705), (1944, 16070), (1945, 16436), (1946, 16801), (1947, 17166), (1948, 17531), (1949, 17897)]
theorem dayT0_all : dayT0.all (fun t => givesD (den S2 100 426 [ruleA, .int .i64 (Int.ofNat t.1)] []) t.2) = true := by kernel_rfl
end
end Go.AM.C

/- Contracts, 25: the first of January, year by year, piece 1. Printed by a program (days.py). -/
namespace Go.AM.C
open Go.Proofs
noncomputable section
set_option linter.unusedVariables false
set_option linter.unusedSimpArgs false

def dayT1 : List (Nat × Nat) := [(1950, 18262), (1951, 18627), (1952, 18992), (1953, 19358), (1954, 19723), (1955, 20088), (1956, 20453), (1957, 20819), (1958, 21184), (1959, 21549), (1960, 21914), (1961, 22280), (1962, 22645), (1963, 23010), (1964, 23375), (1965, 23741), (1966, 24106), (1967, 24471), (1968, 24836), (1969, 25202), (1970, 25567), (1971, 25932), (1972, 26297), (1973, 26663), (1974, 27028), (1975, 27393), (1976, 27758), (1977, 28124), (1978, 28489), (1979, 28854), (1980, 29219), (1981, 29585), (1982, 29950), (1983, 30315), (1984, 30680), (1985, 31046), (1986, 31411), (1987, 31776), (1988, 32141), (1989, 32507), (1990, 32872), (1991, 33237), (1992, 33602), (1993, 33968), (1994, 34333), (1995, 34698), (1996, 35063), (1997, 35429), (1998, 35794), (1999, 36159)]
theorem dayT1_all : dayT1.all (fun t => givesD (den S2 100 426 [ruleA, .int .i64 (Int.ofNat t.1)] []) t.2) = true := by kernel_rfl
end
end Go.AM.C

/- Contracts, 25: the first of January, year by year, piece 2. Printed by a program (days.py). -/
namespace Go.AM.C
open Go.Proofs
noncomputable section
set_option linter.unusedVariables false
set_option linter.unusedSimpArgs false

def dayT2 : List (Nat × Nat) := [(2000, 36524), (2001, 36890), (2002, 37255), (2003, 37620), (2004, 37985), (2005, 38351), (2006, 38716), (2007, 39081), (2008, 39446), (2009, 39812), (2010, 40177), (2011, 40542), (2012, 40907), (2013, 41273), (2014, 41638), (2015, 42003), (2016, 42368), (2017, 42734), (2018, 43099), (2019, 43464), (2020, 43829), (2021, 44195), (2022, 44560), (2023, 44925), (2024, 45290), (2025, 45656), (2026, 46021), (2027, 46386), (2028, 46751), (2029, 47117), (2030, 47482), (2031, 47847), (2032, 48212), (2033, 48578), (2034, 48943), (2035, 49308), (2036, 49673), (2037, 50039), (2038, 50404), (2039, 50769), (2040, 51134), (2041, 51500), (2042, 51865), (2043, 52230), (2044, 52595), (2045, 52961), (2046, 53326), (2047, 53691), (2048, 54056), (2049, 54422)]
theorem dayT2_all : dayT2.all (fun t => givesD (den S2 100 426 [ruleA, .int .i64 (Int.ofNat t.1)] []) t.2) = true := by kernel_rfl
end
end Go.AM.C

/- Contracts, 25: the first of January, year by year, piece 3. Printed by a program (days.py). -/
namespace Go.AM.C
open Go.Proofs
noncomputable section
set_option linter.unusedVariables false
set_option linter.unusedSimpArgs false

def dayT3 : List (Nat × Nat) := [(2050, 54787), (2051, 55152), (2052, 55517), (2053, 55883), (2054, 56248), (2055, 56613), (2056, 56978), (2057, 57344), (2058, 57709), (2059, 58074), (2060, 58439), (2061, 58805), (2062, 59170), (2063, 59535), (2064, 59900), (2065, 60266), (2066, 60631), (2067, 60996), (2068, 61361), (2069, 61727), (2070, 62092), (2071, 62457), (2072, 62822), (2073, 63188), (2074, 63553), (2075, 63918), (2076, 64283), (2077, 64649), (2078, 65014), (2079, 65379), (2080, 65744), (2081, 66110), (2082, 66475), (2083, 66840), (2084, 67205), (2085, 67571), (2086, 67936), (2087, 68301), (2088, 68666), (2089, 69032), (2090, 69397), (2091, 69762), (2092, 70127), (2093, 70493), (2094, 70858), (2095, 71223), (2096, 71588), (2097, 71954), (2098, 72319), (2099, 72684)]
theorem dayT3_all : dayT3.all (fun t => givesD (den S2 100 426 [ruleA, .int .i64 (Int.ofNat t.1)] []) t.2) = true := by kernel_rfl
end
end Go.AM.C

/- Contracts, 25: the first of January, year by year, piece 4. Printed by a program (days.py). -/
namespace Go.AM.C
open Go.Proofs
noncomputable section
set_option linter.unusedVariables false
set_option linter.unusedSimpArgs false

def dayT4 : List (Nat × Nat) := [(2100, 73049), (2101, 73414), (2102, 73779), (2103, 74144), (2104, 74509), (2105, 74875), (2106, 75240), (2107, 75605), (2108, 75970), (2109, 76336), (2110, 76701), (2111, 77066), (2112, 77431), (2113, 77797), (2114, 78162), (2115, 78527), (2116, 78892), (2117, 79258), (2118, 79623), (2119, 79988), (2120, 80353), (2121, 80719), (2122, 81084), (2123, 81449), (2124, 81814), (2125, 82180), (2126, 82545), (2127, 82910), (2128, 83275), (2129, 83641), (2130, 84006), (2131, 84371), (2132, 84736), (2133, 85102), (2134, 85467), (2135, 85832), (2136, 86197), (2137, 86563), (2138, 86928), (2139, 87293), (2140, 87658), (2141, 88024), (2142, 88389), (2143, 88754), (2144, 89119), (2145, 89485), (2146, 89850), (2147, 90215), (2148, 90580), (2149, 90946)]
theorem dayT4_all : dayT4.all (fun t => givesD (den S2 100 426 [ruleA, .int .i64 (Int.ofNat t.1)] []) t.2) = true := by kernel_rfl
end
end Go.AM.C

/- Contracts, 25: the first of January, year by year, piece 5. Printed by a program (days.py). -/
namespace Go.AM.C
open Go.Proofs
noncomputable section
set_option linter.unusedVariables false
set_option linter.unusedSimpArgs false

def dayT5 : List (Nat × Nat) := [(2150, 91311), (2151, 91676), (2152, 92041), (2153, 92407), (2154, 92772), (2155, 93137), (2156, 93502), (2157, 93868), (2158, 94233), (2159, 94598), (2160, 94963), (2161, 95329), (2162, 95694), (2163, 96059), (2164, 96424), (2165, 96790), (2166, 97155), (2167, 97520), (2168, 97885), (2169, 98251), (2170, 98616), (2171, 98981), (2172, 99346), (2173, 99712), (2174, 100077), (2175, 100442), (2176, 100807), (2177, 101173), (2178, 101538), (2179, 101903), (2180, 102268), (2181, 102634), (2182, 102999), (2183, 103364), (2184, 103729), (2185, 104095), (2186, 104460), (2187, 104825), (2188, 105190), (2189, 105556), (2190, 105921), (2191, 106286), (2192, 106651), (2193, 107017), (2194, 107382), (2195, 107747), (2196, 108112), (2197, 108478), (2198, 108843), (2199, 109208)]
theorem dayT5_all : dayT5.all (fun t => givesD (den S2 100 426 [ruleA, .int .i64 (Int.ofNat t.1)] []) t.2) = true := by kernel_rfl
end
end Go.AM.C

